/- The program's corners and extremes of tables, walked. -/
import Derived.Test.YtdnodlgebpnfoaaGreatSpans
import Derived.Test.YtdnodlgebpnfoaaGreatRange
namespace Go.Proofs.YtdnodlgebpnfoaaGreat
open Go Go.RowKit Go.Shelf Sw
set_option linter.unusedVariables false
set_option linter.unusedSimpArgs false

/-- What the iterator over the corners reads. -/
structure CMem (F : Nat → Prop) (Vt : TV) (t : Tab) (p q : Span) (p1 p2 p3 : Addr) (m0 : Nat) (W : World) : Prop where
  c1 : CellsAt W p1 (tabC Vt t)
  c2 : CellsAt W p2 (spanC p)
  c3 : CellsAt W p3 (spanC q)
  tab : TabR F W Vt t
  size : m0 ≤ W.heap.size
theorem CMem.kp {F S : Nat → Prop} {Vt : TV} {t : Tab} {p q : Span} {p1 p2 p3 : Addr} {m0 : Nat} {A B : World} (h : CMem F Vt t p q p1 p2 p3 m0 A) (hk : Kp S A B) (hF : ∀ k, F k → ¬ S k) (h1 : ¬ S p1.block) (h2 : ¬ S p2.block) (h3 : ¬ S p3.block) : CMem F Vt t p q p1 p2 p3 m0 B :=
  ⟨hk.cellsAt h.c1 h1, hk.cellsAt h.c2 h2, hk.cellsAt h.c3 h3, h.tab.kp hk hF, Nat.le_trans h.size hk.size⟩
def pointV (t : Tab) (c : Int × Int) : Value := .agg #[.int .i64 c.1, .int .i64 c.2, .int .i64 (fracAt t c.1 c.2).lo, .int .i64 (fracAt t c.1 c.2).hi]
/-- A corner by its numbers: whatever the numbers, it lies on the box. -/
def ptAt (t : Tab) (p q : Span) (c : Nat × Nat) : Int × Int := (ix (stops t.X p.lo p.hi) (min c.1 ((stops t.X p.lo p.hi).length - 1)), ix (stops t.Y q.lo q.hi) (min c.2 ((stops t.Y q.lo q.hi).length - 1)))
theorem ptAt_of {t : Tab} {p q : Span} {i j : Nat} (hi : i < (stops t.X p.lo p.hi).length) (hj : j < (stops t.Y q.lo q.hi).length) : ptAt t p q (i, j) = (ix (stops t.X p.lo p.hi) i, ix (stops t.Y q.lo q.hi) j) := by
  unfold ptAt
  rw [Nat.min_eq_left (by dsimp only; omega), Nat.min_eq_left (by dsimp only; omega)]
/-- The corners' numbers up to part j of row i. -/
def upTo (ny i j : Nat) : List (Nat × Nat) := ((List.range i).flatMap fun a => (List.range ny).map fun b => (a, b)) ++ (List.range j).map fun b => (i, b)
theorem upTo_next (ny i j : Nat) : upTo ny i (j + 1) = upTo ny i j ++ [(i, j)] := by
  unfold upTo
  rw [List.range_succ, List.map_append, ← List.append_assoc]; rfl
theorem upTo_row {ny i j : Nat} (hj : j = ny) : upTo ny (i + 1) 0 = upTo ny i j := by
  unfold upTo
  subst hj
  rw [List.range_succ, List.flatMap_append]; simp
theorem upTo_len {ny i j : Nat} (hx : i ≤ 14) (hj : j ≤ 14) (hy : ny ≤ 14) : (upTo ny i j).length ≤ 400 := by
  unfold upTo
  rw [List.length_append, List.length_flatMap]
  have h1 : ∀ zs : List Nat, (zs.map fun _ => ny).sum = zs.length * ny := by
    intro zs; induction zs with
    | nil => simp
    | cons z zs ih => simp [ih, Nat.add_mul]; omega
  simp only [List.length_map, h1, List.length_range]
  have := Nat.mul_le_mul hx hy
  omega
theorem mem_upTo {nx ny : Nat} {c : Nat × Nat} : c ∈ upTo ny nx 0 ↔ c.1 < nx ∧ c.2 < ny := by
  unfold upTo
  obtain ⟨a, b⟩ := c
  simp


set_option maxHeartbeats 2000000 in
set_option maxRecDepth 100000 in
theorem corners_it {S F : Nat → Prop} {Vt : TV} {t : Tab} {p q : Span} {p1 p2 p3 : Addr} {w : World} {nn : Nat} (hok : tabOk t = true) (hpok : p.ok = true) (hqok : q.ok = true) (hlies : liesT t p q = true) (c1 : CellsAt w p1 (tabC Vt t)) (c2 : CellsAt w p2 (spanC p)) (c3 : CellsAt w p3 (spanC q)) (ht : TabR F w Vt t)
    (hF : ∀ k, F k → ¬ S k) (h1 : ¬ S p1.block) (h2 : ¬ S p2.block) (h3 : ¬ S p3.block) (hSw : ∀ k, S k → k < w.heap.size) :
    SeqStopsK Fence.wide nn Tryz.prog 232 [.pointer (some p1), .pointer (some p2), .pointer (some p3)].toArray (fun c => #[pointV t (ptAt t p q c)]) (Kp S) (fun xs => xs = upTo (stops t.Y q.lo q.hi).length (stops t.X p.lo p.hi).length 0) (fun _ => True) 1000 w := by
 obtain ⟨hX, hY, hV, hR⟩ := tab_axes hok
 have hp1 := (Span.ok_iff p).1 hpok; have hq1 := (Span.ok_iff q).1 hqok
 simp only [liesT, lies, Bool.and_eq_true, decide_eq_true_eq] at hlies
 have hXm := hX.most; have hYm := hY.most
 have hxs := fun i hi => stops_on (l := t.X) (lo := p.lo) (hi := p.hi) (i := i) hp1.2.1 hlies.1.1 hlies.1.2 hi
 have hys := fun i hi => stops_on (l := t.Y) (lo := q.lo) (hi := q.hi) (i := i) hq1.2.1 hlies.2.1 hlies.2.2 hi
 have hxl := stops_len hXm p.lo p.hi; have hyl := stops_len hYm q.lo q.hi
 have M1 : ∀ W, CMem F Vt t p q p1 p2 p3 w.heap.size W → CellsAt W p1 (tabC Vt t) := fun _ h => h.c1
 have M2 : ∀ W, CMem F Vt t p q p1 p2 p3 w.heap.size W → CellsAt W p2 (spanC p) := fun _ h => h.c2
 have M3 : ∀ W, CMem F Vt t p q p1 p2 p3 w.heap.size W → CellsAt W p3 (spanC q) := fun _ h => h.c3
 have M4 : ∀ W, CMem F Vt t p q p1 p2 p3 w.heap.size W → TabR F W Vt t := fun _ h => h.tab
 refine it_start (n := 39) (Mem := CMem F Vt t p q p1 p2 p3 w.heap.size) Tryz.func232 rfl rfl rfl (fun A B h hk => h.kp hk hF h1 h2 h3) (⟨c1, c2, c3, ht, Nat.le_refl _⟩) (fun i J Jx W a hJ hJx hY hS => ?_)
 refine wpIn_seq ?_
 refine wpIn_region_lit ?_
 refine st_v hS rfl rfl (run_fieldAddrE fe25_0 hS rfl) fun a hS => st_v hS rfl rfl (run_load_cell Tryz.isAgg22 hS rfl (M1 _ hS.now.2 0 _ rfl)) fun a hS => st_v hS rfl rfl (run_load_ext Tryz.isAgg31 Tryz.sizeOf31 hS rfl rfl (M2 _ hS.now.2)) fun a hS => ?_
 have hm0 := (hS.now.2).size
 refine st_call (spans_stops Vt.x t.X p ((fun W hC => (M4 W hC).1) _ hS.now.2) (by omega)) Tryz.call233 hS rfl rfl rfl fun v W a hR hB hlt hS => ?_
 
 obtain ⟨s0, rfl, hs0⟩ := hR
 have hS := (hS.moreSl hlt hs0).less (fun _ h => (⟨h.1.1, h.1.2, h.2⟩ : _ ∧ _ ∧ _))
 refine st_v hS rfl rfl (run_len_slice Tryz.underlying22 hS rfl) fun a hS => st_v hS rfl rfl (run_move hS rfl) fun a hS => wl_nil ?_
 refine wpIn_block ?_
 refine st_loopI (α := Nat) (fun x => [(14, .int .i64 (((x : Nat) : Int)))]) [(0, _), (1, _), (2, _), (3, _), (12, _), (13, _)] (fun x => upTo (stops t.Y q.lo q.hi).length x 0) (fun x => x ≤ (stops t.X p.lo p.hi).length) (fun x => (stops t.X p.lo p.hi).length - x) (0) hS (Sub.cons rfl (Sub.cons rfl (Sub.cons rfl (Sub.cons rfl (Sub.cons rfl (Sub.cons rfl (Sub.cons rfl Sub.nil))))))) (Nat.zero_le _) (rfl) (fun _ h => h) (fun x W a hφ hS => ?_)
 dsimp only [List.cons_append, List.nil_append] at hS
 refine wpIn_seq ?_
 refine wpIn_region_lit ?_
 refine st_v hS rfl rfl (run_bin hS rfl rfl rfl) fun a hS => wl_nil ?_
 refine wpIn_seq ?_
 refine st_cond hS rfl (fun hc1 => ?_) (fun hc1 => ?_)
 ·
  try simp only [ty] at hc1
  refine wpIn_skip ?_
  refine wpIn_seq ?_
  refine wpIn_block ?_
  refine wpIn_seq ?_
  refine wpIn_region_lit ?_
  obtain ⟨ad1, hA1, hL1⟩ := sl_int (fun _ h => h) hS.now.2.2 (i := ((x : Nat) : Int)) (j := x) (by omega) (by omega)
  refine st_v hS rfl rfl (run_indexAddr Tryz.underlying22 Tryz.sizeOf3 hS rfl rfl hA1 (by omega) (by omega)) fun a hS => st_v hS rfl rfl (run_load_cell Tryz.isAgg3 hS rfl (hL1 _ hS.now.2.2)) fun a hS => st_v hS rfl rfl (run_assign hS rfl) fun a hS => wl_nil ?_
  refine wpIn_seq ?_
  refine wpIn_region_lit ?_
  refine st_v hS rfl rfl (run_fieldAddrE fe25_1 hS rfl) fun a hS => st_v hS rfl rfl (run_load_cell Tryz.isAgg22 hS rfl (M1 _ hS.now.2.1 1 _ rfl)) fun a hS => st_v hS rfl rfl (run_load_ext Tryz.isAgg31 Tryz.sizeOf31 hS rfl rfl (M3 _ hS.now.2.1)) fun a hS => ?_
  have hm2 := (hS.now.2.1).size
  refine st_call (spans_stops Vt.y t.Y q ((fun W hC => (M4 W hC).2.1) _ hS.now.2.1) (by omega)) Tryz.call233 hS rfl rfl rfl fun v W a hR hB hlt hS => ?_
  
  obtain ⟨s2, rfl, hs2⟩ := hR
  have hS := (hS.moreSl hlt hs2).less (fun _ h => (⟨h.1.1, h.1.2, h.2⟩ : _ ∧ _ ∧ _))
  refine st_v hS rfl rfl (run_len_slice Tryz.underlying22 hS rfl) fun a hS => st_v hS rfl rfl (run_move hS rfl) fun a hS => wl_nil ?_
  refine wpIn_block ?_
  refine st_loopI (α := Nat) (fun y => [(23, .int .i64 (((y : Nat) : Int)))]) [(0, _), (1, _), (2, _), (3, _), (12, _), (13, _), (14, _), (6, _), (21, _), (22, _)] (fun y => upTo (stops t.Y q.lo q.hi).length x y) (fun y => y ≤ (stops t.Y q.lo q.hi).length) (fun y => (stops t.Y q.lo q.hi).length - y) (0) hS (Sub.cons rfl (Sub.cons rfl (Sub.cons rfl (Sub.cons rfl (Sub.cons rfl (Sub.cons rfl (Sub.cons rfl (Sub.cons rfl (Sub.cons rfl (Sub.cons rfl (Sub.cons rfl Sub.nil))))))))))) (Nat.zero_le _) (rfl) (fun _ h => h) (fun y W a hφ hS => ?_)
  dsimp only [List.cons_append, List.nil_append] at hS
  refine wpIn_seq ?_
  refine wpIn_region_lit ?_
  refine st_v hS rfl rfl (run_bin hS rfl rfl rfl) fun a hS => wl_nil ?_
  refine wpIn_seq ?_
  refine st_cond hS rfl (fun hc2 => ?_) (fun hc2 => ?_)
  ·
   try simp only [ty] at hc2
   refine wpIn_skip ?_
   refine wpIn_seq ?_
   refine wpIn_block ?_
   refine wpIn_seq ?_
   refine wpIn_region_lit ?_
   obtain ⟨ad3, hA3, hL3⟩ := sl_int (fun _ h => h) hS.now.2.2 (i := ((y : Nat) : Int)) (j := y) (by omega) (by omega)
   refine st_v hS rfl rfl (run_indexAddr Tryz.underlying22 Tryz.sizeOf3 hS rfl rfl hA3 (by omega) (by omega)) fun a hS => st_v hS rfl rfl (run_load_cell Tryz.isAgg3 hS rfl (hL3 _ hS.now.2.2)) fun a hS => st_v hS rfl rfl (run_assign hS rfl) fun a hS => wl_nil ?_
   refine wpIn_seq ?_
   refine wpIn_region_lit ?_
   refine st_v hS rfl rfl (run_move hS rfl) fun a hS => st_v hS rfl rfl (run_move hS rfl) fun a hS => st_v hS rfl rfl (run_move hS rfl) fun a hS => st_v hS rfl rfl (run_load_ext Tryz.isAgg25 Tryz.sizeOf25 hS rfl rfl (M1 _ hS.now.2.1.1)) fun a hS => st_v hS rfl rfl (run_move hS rfl) fun a hS => st_v hS rfl rfl (run_move hS rfl) fun a hS => st_call (spans_at Vt t (M4 _ hS.now.2.1.1) (by assumption) (by exact hxs _ (by omega)) (by exact hys _ (by omega))) Tryz.call234 hS rfl rfl rfl fun v W a hR hB hlt hS => ?_
   subst hR
   refine st_v hS rfl rfl (run_build (pv := [(0, .int .i64 _), (1, .int .i64 _), (2, .agg #[.int .i64 _, .int .i64 _])]) (fun W => bd162_0_1_2 _ _ _ _ W) hS rfl) fun a hS => ?_
   refine st_yield (pre := upTo (stops t.Y q.lo q.hi).length x y) (z := (x, y)) hS (fun _ h => h) hJ hJx (fun A B h hk => ⟨⟨h.1.1.kp hk hF h1 h2 h3, h.1.2.kpInt hk (fun k hk hs => by have := hSw k hs; omega)⟩, h.2.kpInt hk (fun k hk hs => by have := hSw k hs; omega)⟩) hY (by have := upTo_len (ny := (stops t.Y q.lo q.hi).length) (i := x) (j := y) (by omega) (by omega) hyl; omega) rfl rfl rfl (by rw [ptAt_of (by omega) (by omega)]; rfl) (fun W a hS => ?_) (fun W a hS => ?_)
   ·
    refine st_v hS rfl rfl (run_not hS rfl) fun a hS => wl_nil ?_
    refine st_cond_f hS rfl ?_
    refine wpIn_skip ?_
    refine wpIn_region_lit ?_
    refine st_v hS rfl rfl (run_add (t := ((y + 1 : Nat) : Int)) hS rfl rfl (by omega) (by omega) (by omega)) fun a hS => st_v hS rfl rfl (run_move hS rfl) fun a hS => wl_nil ?_
    refine ⟨y + 1, ⟨by omega, by omega⟩, ((hS.sub (Sub.cons rfl (Sub.cons rfl (Sub.cons rfl (Sub.cons rfl (Sub.cons rfl (Sub.cons rfl (Sub.cons rfl (Sub.cons rfl (Sub.cons rfl (Sub.cons rfl (Sub.cons rfl Sub.nil)))))))))))).less (fun _ h => ?_)).rebase⟩
    rw [upTo_next]; exact h
   ·
    refine st_v hS rfl rfl (run_not hS rfl) fun a hS => wl_nil ?_
    refine st_cond_t hS rfl ?_
    refine wpIn_ret ?_
    repeat (first | refine q_ret ?_ | refine q_block_ret ?_)
    refine hS.doneI (res0 (fn := Tryz.f232)  rfl ) ?_
    exact ⟨⟨_, rfl⟩, .inr ⟨_, trivial, hS.now⟩⟩
  ·
   try simp only [ty] at hc2
   refine wpIn_exit ?_
   refine wpIn_region_lit ?_
   refine st_v hS rfl rfl (run_add (t := ((x + 1 : Nat) : Int)) hS rfl rfl (by omega) (by omega) (by omega)) fun a hS => st_v hS rfl rfl (run_move hS rfl) fun a hS => wl_nil ?_
   refine ⟨x + 1, ⟨by omega, by omega⟩, ((hS.sub (Sub.cons rfl (Sub.cons rfl (Sub.cons rfl (Sub.cons rfl (Sub.cons rfl (Sub.cons rfl (Sub.cons rfl Sub.nil)))))))).less (fun _ h => ?_)).rebase⟩
   rw [upTo_row (by omega : y = (stops t.Y q.lo q.hi).length)]; exact ⟨h.1, h.2.1⟩
 ·
  try simp only [ty] at hc1
  refine wpIn_exit ?_
  repeat (first | refine q_then_x (by simp) ?_ | refine q_block_in ?_ | refine q_block ?_)
  refine hS.doneIn (res0 (fn := Tryz.f232)  rfl ) ?_
  exact ⟨⟨_, rfl⟩, .inl ⟨_, by rw [show x = (stops t.X p.lo p.hi).length by omega], hS.now.1⟩⟩


set_option maxHeartbeats 2000000 in
set_option maxRecDepth 100000 in
theorem spans_corners (Vt : TV) (t : Tab) (p q : Span) {w : World} : Ret Tryz.prog 189 [.agg (tabC Vt t).toArray, .agg (spanC p).toArray, .agg (spanC q).toArray] w (fun v W' => ∃ p1 p2 p3 : Addr, v = .func (.func 232) #[] #[.pointer (some p1), .pointer (some p2), .pointer (some p3)] ∧
    (CellsAt W' p1 (tabC Vt t) ∧ CellsAt W' p2 (spanC p) ∧ CellsAt W' p3 (spanC q)) ∧ w.heap.size ≤ p1.block ∧ w.heap.size ≤ p2.block ∧ w.heap.size ≤ p3.block) := by
 refine ret_start (n := 8) Tryz.func189 rfl rfl rfl (fun a hS => ?_)
 refine wpIn_seq ?_
 refine wpIn_region_lit ?_
 refine st_box_agg hS rfl rfl rfl fun W a b0 hS => st_box_agg hS rfl rfl rfl fun W a b1 hS => st_box_agg hS rfl rfl rfl fun W a b2 hS => st_v hS rfl rfl (run_assign hS rfl) fun a hS => wl_nil ?_
 refine wpIn_seq ?_
 refine wpIn_region_lit ?_
 refine st_v hS rfl rfl (run_makeFunc hS rfl rfl) fun a hS => st_v hS rfl rfl (run_assign hS rfl) fun a hS => wl_nil ?_
 refine wpIn_ret ?_
 repeat (first | refine q_ret ?_ | refine q_block_ret ?_)
 refine hS.done (res1 (fn := Tryz.f189) (r1 := .tmp 6) rfl (rv_tmp hS rfl)) ?_
 exact ⟨⟨b0, 0, none⟩, ⟨b1, 0, none⟩, ⟨b2, 0, none⟩, rfl, ⟨hS.cells (i := 2) rfl _ (Below.refl _ _), hS.cells (i := 1) rfl _ (Below.refl _ _), hS.cells (i := 0) rfl _ (Below.refl _ _)⟩, hS.old _ (nthB_in (i := 2) rfl), hS.old _ (nthB_in (i := 1) rfl), hS.old _ (nthB_in (i := 0) rfl)⟩


structure P4 where
  x : Int
  y : Int
  n : Int
  d : Int
abbrev P4.cs (z : P4) : List Value := [.int .i64 z.x, .int .i64 z.y, .int .i64 z.n, .int .i64 z.d]
def p4 (t : Tab) (p q : Span) (c : Nat × Nat) : P4 := ⟨(ptAt t p q c).1, (ptAt t p q c).2, (fracAt t (ptAt t p q c).1 (ptAt t p q c).2).lo, (fracAt t (ptAt t p q c).1 (ptAt t p q c).2).hi⟩
def ltF (a b : P4) : Prop := a.n * b.d < b.n * a.d
/-- The least and the greatest of the points so far. -/
structure Ext (t : Tab) (p q : Span) (pre : List (Nat × Nat)) (an : Bool) (lo hi : P4) : Prop where
  none : an = false → pre = []
  some : an = true → (∃ c ∈ pre, lo = p4 t p q c) ∧ (∃ c ∈ pre, hi = p4 t p q c) ∧ ∀ c ∈ pre, lo.n * (p4 t p q c).d ≤ (p4 t p q c).n * lo.d ∧ (p4 t p q c).n * hi.d ≤ hi.n * (p4 t p q c).d
theorem le_tr {a b c a' b' c' : Int} (ha : 0 < a') (hb : 0 < b') (hc : 0 < c') (h1 : a * b' ≤ b * a') (h2 : b * c' ≤ c * b') : a * c' ≤ c * a' := by
  have e1 := Int.mul_le_mul_of_nonneg_right h1 (Int.le_of_lt hc)
  have e2 := Int.mul_le_mul_of_nonneg_right h2 (Int.le_of_lt ha)
  have e3 : (a * c') * b' ≤ (c * a') * b' := by
    have f1 : a * c' * b' = a * b' * c' := by grind
    have f2 : b * a' * c' = b * c' * a' := by grind
    have f3 : c * b' * a' = c * a' * b' := by grind
    omega
  exact Int.le_of_mul_le_mul_right e3 hb
/-- One point more. -/
theorem Ext.next {t : Tab} {p q : Span} {pre : List (Nat × Nat)} {an : Bool} {lo hi : P4} (h : Ext t p q pre an lo hi) (hd : ∀ c, 0 < (p4 t p q c).d) (c : Nat × Nat) {lo' hi' : P4}
    (h1 : (lo' = p4 t p q c ∧ (an = true → (p4 t p q c).n * lo.d ≤ lo.n * (p4 t p q c).d)) ∨ (an = true ∧ lo' = lo ∧ lo.n * (p4 t p q c).d ≤ (p4 t p q c).n * lo.d))
    (h2 : (hi' = p4 t p q c ∧ (an = true → hi.n * (p4 t p q c).d ≤ (p4 t p q c).n * hi.d)) ∨ (an = true ∧ hi' = hi ∧ (p4 t p q c).n * hi.d ≤ hi.n * (p4 t p q c).d)) : Ext t p q (pre ++ [c]) true lo' hi' := by
  refine ⟨fun h => (by cases h), fun _ => ⟨?_, ?_, fun c' hc' => ?_⟩⟩
  · rcases h1 with ⟨rfl, _⟩ | ⟨ha, rfl, _⟩
    · exact ⟨c, by simp, rfl⟩
    · obtain ⟨c0, h0, e⟩ := (h.some ha).1
      exact ⟨c0, by simp [h0], e⟩
  · rcases h2 with ⟨rfl, _⟩ | ⟨ha, rfl, _⟩
    · exact ⟨c, by simp, rfl⟩
    · obtain ⟨c0, h0, e⟩ := (h.some ha).2.1
      exact ⟨c0, by simp [h0], e⟩
  · have hdl : an = true → 0 < lo.d ∧ 0 < hi.d := fun ha => by
      obtain ⟨c0, _, e0⟩ := (h.some ha).1
      obtain ⟨c1, _, e1⟩ := (h.some ha).2.1
      exact ⟨by rw [e0]; exact hd _, by rw [e1]; exact hd _⟩
    rcases List.mem_append.1 hc' with hc' | hc'
    · have ha : an = true := by
        cases an with
        | true => rfl
        | false => rw [h.none rfl] at hc'; cases hc'
      have h3 := (h.some ha).2.2 c' hc'
      have h4 := hdl ha
      constructor
      · rcases h1 with ⟨rfl, h5⟩ | ⟨_, rfl, _⟩
        · exact le_tr (hd c) h4.1 (hd c') (h5 ha) h3.1
        · exact h3.1
      · rcases h2 with ⟨rfl, h5⟩ | ⟨_, rfl, _⟩
        · exact le_tr (hd c') h4.2 (hd c) h3.2 (h5 ha)
        · exact h3.2
    · rw [List.mem_singleton.1 hc']
      constructor
      · rcases h1 with ⟨rfl, _⟩ | ⟨_, rfl, h5⟩
        · exact Int.le_refl _
        · exact h5
      · rcases h2 with ⟨rfl, _⟩ | ⟨_, rfl, h5⟩
        · exact Int.le_refl _
        · exact h5


theorem p4_bd {t : Tab} {p q : Span} (hok : tabOk t = true) (hpok : p.ok = true) (hqok : q.ok = true) (hlies : liesT t p q = true) (c : Nat × Nat) : (1 ≤ (p4 t p q c).d ∧ (p4 t p q c).d ≤ 100000000) ∧ (-400000000000000 ≤ (p4 t p q c).n ∧ (p4 t p q c).n ≤ 400000000000000) := by
  obtain ⟨hX, hY, hV, hR⟩ := tab_axes hok
  have hp1 := (Span.ok_iff p).1 hpok; have hq1 := (Span.ok_iff q).1 hqok
  simp only [liesT, lies, Bool.and_eq_true, decide_eq_true_eq] at hlies
  have hx1 := stops_pos t.X p.lo p.hi; have hy1 := stops_pos t.Y q.lo q.hi
  have hx := stops_on (l := t.X) (lo := p.lo) (hi := p.hi) (i := min c.1 ((stops t.X p.lo p.hi).length - 1)) hp1.2.1 hlies.1.1 hlies.1.2 (by omega)
  have hy := stops_on (l := t.Y) (lo := q.lo) (hi := q.hi) (i := min c.2 ((stops t.Y q.lo q.hi).length - 1)) hq1.2.1 hlies.2.1 hlies.2.2 (by omega)
  have hp := part4 hok (cellAt_in hX hx.1 hx.2) (cellAt_in hY hy.1 hy.2)
  exact ⟨den_abs hp, num_abs hp⟩
theorem Ext.bd {t : Tab} {p q : Span} {pre : List (Nat × Nat)} {an : Bool} {lo hi : P4} (h : Ext t p q pre an lo hi) (ha : an = true) (hb : ∀ c, (1 ≤ (p4 t p q c).d ∧ (p4 t p q c).d ≤ 100000000) ∧ (-400000000000000 ≤ (p4 t p q c).n ∧ (p4 t p q c).n ≤ 400000000000000)) :
    ((1 ≤ lo.d ∧ lo.d ≤ 100000000) ∧ (-400000000000000 ≤ lo.n ∧ lo.n ≤ 400000000000000)) ∧ (1 ≤ hi.d ∧ hi.d ≤ 100000000) ∧ (-400000000000000 ≤ hi.n ∧ hi.n ≤ 400000000000000) := by
  obtain ⟨⟨c, _, e1⟩, ⟨c', _, e2⟩, _⟩ := h.some ha
  rw [e1, e2]
  exact ⟨hb c, hb c'⟩


set_option maxHeartbeats 4000000 in
set_option maxRecDepth 100000 in
theorem spans_extremes (Vt : TV) (t : Tab) (p q : Span) {w : World} {Ft : Nat → Prop} (ht : TabR Ft w Vt t) (hok : tabOk t = true) (hpok : p.ok = true) (hqok : q.ok = true) (hlies : liesT t p q = true) :
    Ret Tryz.prog 117 [.agg (tabC Vt t).toArray, .agg (spanC p).toArray, .agg (spanC q).toArray] w (fun v _ => ∃ lo hi : P4, v = .tuple #[.agg lo.cs.toArray, .agg hi.cs.toArray] ∧ Ext t p q (upTo (stops t.Y q.lo q.hi).length (stops t.X p.lo p.hi).length 0) true lo hi) := by
 refine ret_startM (n := 39) Tryz.func117 rfl rfl rfl (fun a hS => ?_)
 have Ht : ∀ W, Below w.heap.size w W → TabR Ft W Vt t := fun W hb => ht.move (keep_of hb)
 have hb := p4_bd hok hpok hqok hlies
 have hx1 := stops_pos t.X p.lo p.hi; have hy1 := stops_pos t.Y q.lo q.hi
 refine wpIn_seq ?_
 refine wpIn_region_lit ?_
 refine st_box_agg hS rfl rfl rfl fun W a b0 hS => st_box_agg hS rfl rfl rfl fun W a b1 hS => st_box_agg hS rfl rfl rfl fun W a b2 hS => st_alloc_agg Tryz.zeroValue162 hS rfl rfl fun W a b3 hS => st_alloc_agg Tryz.zeroValue162 hS rfl rfl fun W a b4 hS => wl_nil ?_
 refine wpIn_seq ?_
 refine wpIn_region_lit ?_
 refine st_alloc_one Tryz.zeroValue4 rfl hS rfl rfl fun W a b5 hS => st_store (i := 0) Tryz.sizeOf4 hS rfl rfl rfl rfl rfl rfl rfl rfl rfl fun W a hS => wl_nil ?_
 refine wpIn_seq ?_
 refine wpIn_seq ?_
 refine wpIn_region_lit ?_
 refine st_v hS rfl rfl (run_load_all (i := 5) Tryz.isAgg25 Tryz.sizeOf25 hS rfl rfl rfl) fun a hS => st_v hS rfl rfl (run_load_all (i := 4) Tryz.isAgg31 Tryz.sizeOf31 hS rfl rfl rfl) fun a hS => st_v hS rfl rfl (run_load_all (i := 3) Tryz.isAgg31 Tryz.sizeOf31 hS rfl rfl rfl) fun a hS => st_call (spans_corners Vt t p q) Tryz.call189 hS rfl rfl rfl fun v W a hR hB hlt hS => ?_
 obtain ⟨p1, p2, p3, rfl, ⟨c1, c2, c3⟩, g1, g2, g3⟩ := hR
 refine wl_nil ?_
 refine wpIn_block ?_
 refine st_range (α := Nat × Nat) (σ := Bool × P4 × P4) hS (by decide) rfl Tryz.call232 (enc := fun c => pointV t (ptAt t p q c)) (Sx := fun xs => xs = upTo (stops t.Y q.lo q.hi).length (stops t.X p.lo p.hi).length 0) (N := 1000) (corners_it hok hpok hqok hlies c1 c2 c3 (ht.deep.move (keep_of hS.below)) (fun k hk hs => by obtain ⟨B, hB, e⟩ := hs; have := hS.old B hB; have := hk.2; omega) (by rintro ⟨B, hB, e⟩; have := hlt B hB; omega) (by rintro ⟨B, hB, e⟩; have := hlt B hB; omega) (by rintro ⟨B, hB, e⟩; have := hlt B hB; omega) (fun k hs => by obtain ⟨B, hB, e⟩ := hs; have := hS.lt hB; omega)) rfl (fun z => [⟨b5, [.bool z.1], 4⟩, ⟨b4, [.int .i64 z.2.2.x, .int .i64 z.2.2.y, .int .i64 z.2.2.n, .int .i64 z.2.2.d], 162⟩, ⟨b3, [.int .i64 z.2.1.x, .int .i64 z.2.1.y, .int .i64 z.2.1.n, .int .i64 z.2.1.d], 162⟩, ⟨b2, spanC q, 31⟩, ⟨b1, spanC p, 31⟩, ⟨b0, tabC Vt t, 25⟩]) (false, ⟨0, 0, 0, 0⟩, ⟨0, 0, 0, 0⟩) rfl (by intro z B hB; simp only [List.mem_cons, List.not_mem_nil, or_false] at hB; rcases hB with rfl | rfl | rfl | rfl | rfl | rfl <;> first | exact ⟨_, nthB_in (i := 0) rfl, rfl⟩ | exact ⟨_, nthB_in (i := 1) rfl, rfl⟩ | exact ⟨_, nthB_in (i := 2) rfl, rfl⟩ | exact ⟨_, nthB_in (i := 3) rfl, rfl⟩ | exact ⟨_, nthB_in (i := 4) rfl, rfl⟩ | exact ⟨_, nthB_in (i := 5) rfl, rfl⟩) (fun pre z => Ext t p q pre z.1 z.2.1 z.2.2) (⟨fun _ => rfl, fun h => by cases h⟩) (fun _ => True) (trivial) (fun _ _ _ _ => trivial) (fun b c => [(9, .pointer (some ⟨b, 0, none⟩)), (14, pointV t (ptAt t p q c))]) (fun c => P4.cs (p4 t p q c)) ?_ ?_ ?_
 ·
  intro r c W1 a1 hS K hK
  refine wpIn_region_lit ?_
  refine st_alloc_agg Tryz.zeroValue162 hS rfl rfl fun W a b6 hS => st_store (i := 0) Tryz.sizeOf162 hS rfl rfl rfl rfl rfl rfl rfl rfl rfl fun W a hS => wl_nil ?_
  exact hK _ _ b6 (hS.old _ (nthB_in (i := 0) rfl)) (fun t v ht => hS.get t v ht) hS.size hS.defers.1 hS.below (hS.cells (i := 0) rfl _ (Below.refl _ _))
 ·
  intro r pre c z W1 a1 b hφ hN hS
  obtain ⟨an, lo, hi⟩ := z
  dsimp only [List.cons_append, List.nil_append] at hS hφ
  have hE := hφ
  refine wpIn_block ?_
  refine wpIn_seq ?_
  refine wpIn_seq ?_
  refine wpIn_region_lit ?_
  refine st_v hS rfl rfl (run_load_one (i := 0) Tryz.isAgg4 hS rfl rfl rfl) fun a hS => st_v hS rfl rfl (run_not hS rfl) fun a hS => st_v hS rfl rfl (run_move hS rfl) fun a hS => ?_
  refine st_split (d := 17) hS rfl (fun hc1 hS => ?_) (fun hc1 hS => ?_)
  ·
   try simp only [ty] at hc1
   
   refine st_skip hS (hS.unwanted rfl rfl rfl rfl) rfl fun a hS => st_skip hS (hS.unwanted rfl rfl rfl rfl) rfl fun a hS => st_skip hS (hS.unwanted rfl rfl rfl rfl) rfl fun a hS => st_skip hS (hS.unwanted rfl rfl rfl rfl) rfl fun a hS => st_skip hS (hS.unwanted rfl rfl rfl rfl) rfl fun a hS => st_skip hS (hS.unwanted rfl rfl rfl rfl) rfl fun a hS => st_v hS rfl rfl (run_pick_t hS rfl rfl) fun a hS => wl_nil ?_
   refine st_cond_t hS rfl ?_
   refine wpIn_region_lit ?_
   refine st_v hS rfl rfl (run_load_ext Tryz.isAgg162 Tryz.sizeOf162 hS rfl rfl (CellsAt.get _ hS.now.2)) fun a hS => st_store (i := 2) Tryz.sizeOf162 hS rfl rfl rfl rfl rfl rfl rfl rfl rfl fun W a hS => wl_nil ?_
   refine wpIn_seq ?_
   refine wpIn_seq ?_
   refine wpIn_region_lit ?_
   refine st_v hS rfl rfl (run_load_one (i := 0) Tryz.isAgg4 hS rfl rfl rfl) fun a hS => st_v hS rfl rfl (run_not hS rfl) fun a hS => st_v hS rfl rfl (run_move hS rfl) fun a hS => ?_
   refine st_split (d := 28) hS rfl (fun hc2 hS => ?_) (fun hc2 hS => ?_)
   ·
    try simp only [ty] at hc2
    
    refine st_skip hS (hS.unwanted rfl rfl rfl rfl) rfl fun a hS => st_skip hS (hS.unwanted rfl rfl rfl rfl) rfl fun a hS => st_skip hS (hS.unwanted rfl rfl rfl rfl) rfl fun a hS => st_skip hS (hS.unwanted rfl rfl rfl rfl) rfl fun a hS => st_skip hS (hS.unwanted rfl rfl rfl rfl) rfl fun a hS => st_skip hS (hS.unwanted rfl rfl rfl rfl) rfl fun a hS => st_v hS rfl rfl (run_pick_t hS rfl rfl) fun a hS => wl_nil ?_
    have hS := hS.sub (κ' := [(0, _), (1, _), (2, _), (3, _), (4, _), (5, _), (6, _), (7, _), (8, _), (14, _), (9, _), (35, _)]) (Sub.cons rfl (Sub.cons rfl (Sub.cons rfl (Sub.cons rfl (Sub.cons rfl (Sub.cons rfl (Sub.cons rfl (Sub.cons rfl (Sub.cons rfl (Sub.cons rfl (Sub.cons rfl (Sub.cons rfl Sub.nil))))))))))))
    refine st_cond_t hS rfl ?_
    refine wpIn_region_lit ?_
    refine st_v hS rfl rfl (run_load_ext Tryz.isAgg162 Tryz.sizeOf162 hS rfl rfl (CellsAt.get _ hS.now.2)) fun a hS => st_store (i := 1) Tryz.sizeOf162 hS rfl rfl rfl rfl rfl rfl rfl rfl rfl fun W a hS => wl_nil ?_
    refine wpIn_region_lit ?_
    refine st_store (i := 0) Tryz.sizeOf4 hS rfl rfl rfl rfl rfl rfl rfl rfl rfl fun W a hS => wl_nil ?_
    refine ⟨rfl, (true, ⟨((p4 t p q c).x), ((p4 t p q c).y), ((p4 t p q c).n), ((p4 t p q c).d)⟩, ⟨((p4 t p q c).x), ((p4 t p q c).y), ((p4 t p q c).n), ((p4 t p q c).d)⟩), _, [], ?_, hS⟩
    refine hE.next (fun c => by have := hb c; omega) c (.inl ⟨rfl, (by intro ha; rw [ha] at hc1; cases hc1)⟩) (.inl ⟨rfl, (by intro ha; rw [ha] at hc1; cases hc1)⟩)
   ·
    try simp only [ty] at hc2
    rw [hc1] at hc2; cases hc2
  ·
   try simp only [ty] at hc1
   have hcl := (cmpV_spec (p := ⟨(p4 t p q c).n, (p4 t p q c).d⟩) (q := ⟨lo.n, lo.d⟩) (by have := hb c; dsimp only; omega) (by have := hE.bd (by assumption) hb; dsimp only; omega)).1
   have hch := (cmpV_spec (p := ⟨(p4 t p q c).n, (p4 t p q c).d⟩) (q := ⟨hi.n, hi.d⟩) (by have := hb c; dsimp only; omega) (by have := hE.bd (by assumption) hb; dsimp only; omega)).2
   refine st_v hS (hS.wanted rfl rfl rfl) rfl (run_fieldAddrE fe162_2 hS rfl) fun a hS => st_v hS (hS.wanted rfl rfl rfl) rfl (run_load_ext (vs := [_, _]) Tryz.isAgg160 Tryz.sizeOf160 hS rfl rfl (CellsAt.sub (CellsAt.get _ hS.now.2) (off := 2) ⟨rfl, rfl, trivial⟩)) fun a hS => st_v hS (hS.wanted rfl rfl rfl) rfl (run_fieldAddr fa162_2 hS rfl) fun a hS => st_v hS (hS.wanted rfl rfl rfl) rfl (run_load_agg (i := 2) (vs := [_, _]) Tryz.isAgg160 Tryz.sizeOf160 hS rfl rfl rfl ⟨rfl, rfl, trivial⟩) fun a hS => st_call (spans_compare (⟨(p4 t p q c).n, (p4 t p q c).d⟩ : Span) (⟨lo.n, lo.d⟩ : Span) (by exact (hb c).1) (by exact (hb c).2) (by exact (hE.bd (by assumption) hb).1.1) (by exact (hE.bd (by assumption) hb).1.2)) Tryz.call190 hS (hS.wanted rfl rfl rfl) rfl rfl fun v W a hR hB hlt hS => ?_
   subst hR
   refine st_v hS (hS.wanted rfl rfl rfl) rfl (run_bin hS rfl rfl rfl) fun a hS => st_v hS rfl rfl (run_pick_f hS rfl rfl) fun a hS => wl_nil ?_
   refine st_cond hS rfl (fun hc3 => ?_) (fun hc3 => ?_)
   ·
    try simp only [ty] at hc3
    
    refine wpIn_region_lit ?_
    refine st_v hS rfl rfl (run_load_ext Tryz.isAgg162 Tryz.sizeOf162 hS rfl rfl (CellsAt.get _ hS.now.2)) fun a hS => st_store (i := 2) Tryz.sizeOf162 hS rfl rfl rfl rfl rfl rfl rfl rfl rfl fun W a hS => wl_nil ?_
    refine wpIn_seq ?_
    refine wpIn_seq ?_
    refine wpIn_region_lit ?_
    refine st_v hS rfl rfl (run_load_one (i := 0) Tryz.isAgg4 hS rfl rfl rfl) fun a hS => st_v hS rfl rfl (run_not hS rfl) fun a hS => st_v hS rfl rfl (run_move hS rfl) fun a hS => ?_
    refine st_split (d := 28) hS rfl (fun hc4 hS => ?_) (fun hc4 hS => ?_)
    ·
     try simp only [ty] at hc4
     rw [hc1] at hc4; cases hc4
    ·
     try simp only [ty] at hc4
     
     refine st_v hS (hS.wanted rfl rfl rfl) rfl (run_fieldAddrE fe162_2 hS rfl) fun a hS => st_v hS (hS.wanted rfl rfl rfl) rfl (run_load_ext (vs := [_, _]) Tryz.isAgg160 Tryz.sizeOf160 hS rfl rfl (CellsAt.sub (CellsAt.get _ hS.now.2) (off := 2) ⟨rfl, rfl, trivial⟩)) fun a hS => st_v hS (hS.wanted rfl rfl rfl) rfl (run_fieldAddr fa162_2 hS rfl) fun a hS => st_v hS (hS.wanted rfl rfl rfl) rfl (run_load_agg (i := 1) (vs := [_, _]) Tryz.isAgg160 Tryz.sizeOf160 hS rfl rfl rfl ⟨rfl, rfl, trivial⟩) fun a hS => st_call (spans_compare (⟨(p4 t p q c).n, (p4 t p q c).d⟩ : Span) (⟨hi.n, hi.d⟩ : Span) (by exact (hb c).1) (by exact (hb c).2) (by exact (hE.bd (by assumption) hb).2.1) (by exact (hE.bd (by assumption) hb).2.2)) Tryz.call190 hS (hS.wanted rfl rfl rfl) rfl rfl fun v W a hR hB hlt hS => ?_
     subst hR
     refine st_v hS (hS.wanted rfl rfl rfl) rfl (run_bin hS rfl rfl rfl) fun a hS => st_v hS rfl rfl (run_pick_f hS rfl rfl) fun a hS => wl_nil ?_
     have hS := hS.sub (κ' := [(0, _), (1, _), (2, _), (3, _), (4, _), (5, _), (6, _), (7, _), (8, _), (14, _), (9, _), (35, _)]) (Sub.cons rfl (Sub.cons rfl (Sub.cons rfl (Sub.cons rfl (Sub.cons rfl (Sub.cons rfl (Sub.cons rfl (Sub.cons rfl (Sub.cons rfl (Sub.cons rfl (Sub.cons rfl (Sub.cons rfl Sub.nil))))))))))))
     refine st_cond hS rfl (fun hc5 => ?_) (fun hc5 => ?_)
     ·
      try simp only [ty] at hc5
      
      refine wpIn_region_lit ?_
      refine st_v hS rfl rfl (run_load_ext Tryz.isAgg162 Tryz.sizeOf162 hS rfl rfl (CellsAt.get _ hS.now.2)) fun a hS => st_store (i := 1) Tryz.sizeOf162 hS rfl rfl rfl rfl rfl rfl rfl rfl rfl fun W a hS => wl_nil ?_
      refine wpIn_region_lit ?_
      refine st_store (i := 0) Tryz.sizeOf4 hS rfl rfl rfl rfl rfl rfl rfl rfl rfl fun W a hS => wl_nil ?_
      refine ⟨rfl, (true, ⟨((p4 t p q c).x), ((p4 t p q c).y), ((p4 t p q c).n), ((p4 t p q c).d)⟩, ⟨((p4 t p q c).x), ((p4 t p q c).y), ((p4 t p q c).n), ((p4 t p q c).d)⟩), _, [], ?_, hS⟩
      refine hE.next (fun c => by have := hb c; omega) c (.inl ⟨rfl, fun _ => by have := hcl.1 hc3; dsimp only at this; omega⟩) (.inl ⟨rfl, fun _ => by have := hch.1 hc5; dsimp only at this; omega⟩)
     ·
      try simp only [ty] at hc5
      
      refine wpIn_skip ?_
      refine wpIn_region_lit ?_
      refine st_store (i := 0) Tryz.sizeOf4 hS rfl rfl rfl rfl rfl rfl rfl rfl rfl fun W a hS => wl_nil ?_
      refine ⟨rfl, (true, ⟨((p4 t p q c).x), ((p4 t p q c).y), ((p4 t p q c).n), ((p4 t p q c).d)⟩, ⟨hi.x, hi.y, hi.n, hi.d⟩), _, [], ?_, hS⟩
      refine hE.next (fun c => by have := hb c; omega) c (.inl ⟨rfl, fun _ => by have := hcl.1 hc3; dsimp only at this; omega⟩) (.inr ⟨by assumption, rfl, by have h := mt hch.2 (by omega); dsimp only at h; omega⟩)
   ·
    try simp only [ty] at hc3
    
    refine wpIn_skip ?_
    refine wpIn_seq ?_
    refine wpIn_seq ?_
    refine wpIn_region_lit ?_
    refine st_v hS rfl rfl (run_load_one (i := 0) Tryz.isAgg4 hS rfl rfl rfl) fun a hS => st_v hS rfl rfl (run_not hS rfl) fun a hS => st_v hS rfl rfl (run_move hS rfl) fun a hS => ?_
    refine st_split (d := 28) hS rfl (fun hc6 hS => ?_) (fun hc6 hS => ?_)
    ·
     try simp only [ty] at hc6
     rw [hc1] at hc6; cases hc6
    ·
     try simp only [ty] at hc6
     
     refine st_v hS (hS.wanted rfl rfl rfl) rfl (run_fieldAddrE fe162_2 hS rfl) fun a hS => st_v hS (hS.wanted rfl rfl rfl) rfl (run_load_ext (vs := [_, _]) Tryz.isAgg160 Tryz.sizeOf160 hS rfl rfl (CellsAt.sub (CellsAt.get _ hS.now.2) (off := 2) ⟨rfl, rfl, trivial⟩)) fun a hS => st_v hS (hS.wanted rfl rfl rfl) rfl (run_fieldAddr fa162_2 hS rfl) fun a hS => st_v hS (hS.wanted rfl rfl rfl) rfl (run_load_agg (i := 1) (vs := [_, _]) Tryz.isAgg160 Tryz.sizeOf160 hS rfl rfl rfl ⟨rfl, rfl, trivial⟩) fun a hS => st_call (spans_compare (⟨(p4 t p q c).n, (p4 t p q c).d⟩ : Span) (⟨hi.n, hi.d⟩ : Span) (by exact (hb c).1) (by exact (hb c).2) (by exact (hE.bd (by assumption) hb).2.1) (by exact (hE.bd (by assumption) hb).2.2)) Tryz.call190 hS (hS.wanted rfl rfl rfl) rfl rfl fun v W a hR hB hlt hS => ?_
     subst hR
     refine st_v hS (hS.wanted rfl rfl rfl) rfl (run_bin hS rfl rfl rfl) fun a hS => st_v hS rfl rfl (run_pick_f hS rfl rfl) fun a hS => wl_nil ?_
     refine st_cond hS rfl (fun hc7 => ?_) (fun hc7 => ?_)
     ·
      try simp only [ty] at hc7
      
      refine wpIn_region_lit ?_
      refine st_v hS rfl rfl (run_load_ext Tryz.isAgg162 Tryz.sizeOf162 hS rfl rfl (CellsAt.get _ hS.now.2)) fun a hS => st_store (i := 1) Tryz.sizeOf162 hS rfl rfl rfl rfl rfl rfl rfl rfl rfl fun W a hS => wl_nil ?_
      have hS := hS.sub (κ' := [(0, _), (1, _), (2, _), (3, _), (4, _), (5, _), (6, _), (7, _), (8, _), (14, _), (9, _), (36, _)]) (Sub.cons rfl (Sub.cons rfl (Sub.cons rfl (Sub.cons rfl (Sub.cons rfl (Sub.cons rfl (Sub.cons rfl (Sub.cons rfl (Sub.cons rfl (Sub.cons rfl (Sub.cons rfl (Sub.cons rfl Sub.nil))))))))))))
      refine wpIn_region_lit ?_
      refine st_store (i := 0) Tryz.sizeOf4 hS rfl rfl rfl rfl rfl rfl rfl rfl rfl fun W a hS => wl_nil ?_
      refine ⟨rfl, (true, ⟨lo.x, lo.y, lo.n, lo.d⟩, ⟨((p4 t p q c).x), ((p4 t p q c).y), ((p4 t p q c).n), ((p4 t p q c).d)⟩), _, [], ?_, hS⟩
      refine hE.next (fun c => by have := hb c; omega) c (.inr ⟨by assumption, rfl, by have h := mt hcl.2 (by omega); dsimp only at h; omega⟩) (.inl ⟨rfl, fun _ => by have := hch.1 hc7; dsimp only at this; omega⟩)
     ·
      try simp only [ty] at hc7
      
      refine wpIn_skip ?_
      refine wpIn_region_lit ?_
      refine st_store (i := 0) Tryz.sizeOf4 hS rfl rfl rfl rfl rfl rfl rfl rfl rfl fun W a hS => wl_nil ?_
      refine ⟨rfl, (true, ⟨lo.x, lo.y, lo.n, lo.d⟩, ⟨hi.x, hi.y, hi.n, hi.d⟩), _, [], ?_, hS⟩
      refine hE.next (fun c => by have := hb c; omega) c (.inr ⟨by assumption, rfl, by have h := mt hcl.2 (by omega); dsimp only at h; omega⟩) (.inr ⟨by assumption, rfl, by have h := mt hch.2 (by omega); dsimp only at h; omega⟩)
 ·
  intro D xs z W a hx hφ hS
  obtain ⟨an, lo, hi⟩ := z
  dsimp only at hS hφ
  have hE := hφ
  have han : an = true := by
    cases an with
    | true => rfl
    | false =>
      have h1 := hE.none rfl
      have h2 : ((0 : Nat), (0 : Nat)) ∈ xs := by rw [hx]; exact mem_upTo.2 ⟨hx1, hy1⟩
      rw [h1] at h2; cases h2
  subst han
  refine wpIn_seq ?_
  refine wpIn_region_any (by kernel_rfl) ?_
  have hS := hS.grow (later_drawn _)
  refine any_go (rs := [0, 1]) (by kernel_rfl) (by simp) ⟨⟨_, rfl, ?_⟩, ⟨_, rfl, ?_⟩, trivial⟩
  ·
   refine st_v hS rfl rfl (run_load_all (i := 2) Tryz.isAgg162 Tryz.sizeOf162 hS rfl rfl rfl) fun a hS => wl_nil ?_
   refine q_then ?_
   refine any_go (rs := [1, 2]) (by kernel_rfl) (by simp) ⟨⟨_, rfl, ?_⟩, ⟨_, rfl, ?_⟩, trivial⟩
   ·
    refine st_v hS rfl rfl (run_load_all (i := 1) Tryz.isAgg162 Tryz.sizeOf162 hS rfl rfl rfl) fun a hS => wl_nil ?_
    refine q_then ?_
    refine any_go (rs := [2]) (by kernel_rfl) (by simp) ⟨⟨_, rfl, ?_⟩, trivial⟩
    refine st_store (i := 2) Tryz.sizeOf162 hS rfl rfl rfl rfl rfl rfl rfl rfl rfl fun W a hS => wl_nil ?_
    refine q_then ?_
    refine any_go (rs := [3]) (by kernel_rfl) (by simp) ⟨⟨_, rfl, ?_⟩, trivial⟩
    refine st_store (i := 1) Tryz.sizeOf162 hS rfl rfl rfl rfl rfl rfl rfl rfl rfl fun W a hS => wl_nil ?_
    refine q_then ?_
    refine wpAnyIn_done (by kernel_rfl) ?_ _
    refine wpIn_ret ?_
    repeat (first | refine q_ret ?_ | refine q_block_ret ?_)
    refine hS.doneM (fun W a' ha hS => res2 (fn := Tryz.f117) (r1 := .cell 6 162) (r2 := .cell 7 162) rfl (rv_agg (i := 2) Tryz.isAgg162 Tryz.sizeOf162 hS rfl rfl rfl) (rv_agg (i := 1) Tryz.isAgg162 Tryz.sizeOf162 hS rfl rfl rfl)) (fun W hk hz => ?_)
    exact ⟨lo, hi, rfl, by rw [← hx]; exact hE⟩
   ·
    refine st_store (i := 2) Tryz.sizeOf162 hS rfl rfl rfl rfl rfl rfl rfl rfl rfl fun W a hS => wl_nil ?_
    refine q_then ?_
    refine any_go (rs := [1]) (by kernel_rfl) (by simp) ⟨⟨_, rfl, ?_⟩, trivial⟩
    refine st_v hS rfl rfl (run_load_all (i := 1) Tryz.isAgg162 Tryz.sizeOf162 hS rfl rfl rfl) fun a hS => wl_nil ?_
    refine q_then ?_
    refine any_go (rs := [3]) (by kernel_rfl) (by simp) ⟨⟨_, rfl, ?_⟩, trivial⟩
    refine st_store (i := 1) Tryz.sizeOf162 hS rfl rfl rfl rfl rfl rfl rfl rfl rfl fun W a hS => wl_nil ?_
    refine q_then ?_
    refine wpAnyIn_done (by kernel_rfl) ?_ _
    refine wpIn_ret ?_
    repeat (first | refine q_ret ?_ | refine q_block_ret ?_)
    refine hS.doneM (fun W a' ha hS => res2 (fn := Tryz.f117) (r1 := .cell 6 162) (r2 := .cell 7 162) rfl (rv_agg (i := 2) Tryz.isAgg162 Tryz.sizeOf162 hS rfl rfl rfl) (rv_agg (i := 1) Tryz.isAgg162 Tryz.sizeOf162 hS rfl rfl rfl)) (fun W hk hz => ?_)
    exact ⟨lo, hi, rfl, by rw [← hx]; exact hE⟩
  ·
   refine st_v hS rfl rfl (run_load_all (i := 1) Tryz.isAgg162 Tryz.sizeOf162 hS rfl rfl rfl) fun a hS => wl_nil ?_
   refine q_then ?_
   refine any_go (rs := [0]) (by kernel_rfl) (by simp) ⟨⟨_, rfl, ?_⟩, trivial⟩
   refine st_v hS rfl rfl (run_load_all (i := 2) Tryz.isAgg162 Tryz.sizeOf162 hS rfl rfl rfl) fun a hS => wl_nil ?_
   refine q_then ?_
   refine any_go (rs := [2]) (by kernel_rfl) (by simp) ⟨⟨_, rfl, ?_⟩, trivial⟩
   refine st_store (i := 2) Tryz.sizeOf162 hS rfl rfl rfl rfl rfl rfl rfl rfl rfl fun W a hS => wl_nil ?_
   refine q_then ?_
   refine any_go (rs := [3]) (by kernel_rfl) (by simp) ⟨⟨_, rfl, ?_⟩, trivial⟩
   refine st_store (i := 1) Tryz.sizeOf162 hS rfl rfl rfl rfl rfl rfl rfl rfl rfl fun W a hS => wl_nil ?_
   refine q_then ?_
   refine wpAnyIn_done (by kernel_rfl) ?_ _
   refine wpIn_ret ?_
   repeat (first | refine q_ret ?_ | refine q_block_ret ?_)
   refine hS.doneM (fun W a' ha hS => res2 (fn := Tryz.f117) (r1 := .cell 6 162) (r2 := .cell 7 162) rfl (rv_agg (i := 2) Tryz.isAgg162 Tryz.sizeOf162 hS rfl rfl rfl) (rv_agg (i := 1) Tryz.isAgg162 Tryz.sizeOf162 hS rfl rfl rfl)) (fun W hk hz => ?_)
   exact ⟨lo, hi, rfl, by rw [← hx]; exact hE⟩

end Go.Proofs.YtdnodlgebpnfoaaGreat
