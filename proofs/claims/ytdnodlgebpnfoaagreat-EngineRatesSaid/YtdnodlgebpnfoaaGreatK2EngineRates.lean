/- What the proof of EngineRates leans on, part 2: plain mathematics, the engine of the walks, the walks. -/
import Derived.Test.YtdnodlgebpnfoaaGreatK1EngineRates
set_option linter.unusedVariables false
set_option linter.unusedSimpArgs false
set_option linter.unnecessarySimpa false
namespace Go.Proofs.YtdnodlgebpnfoaaGreat
open Go Go.RowKit Go.Shelf Sw
set_option maxHeartbeats 2000000 in
set_option maxRecDepth 100000 in
theorem engine_floor  {n : Int} {d : Int} {w : World}  (hd : 0 < d) (hn : -2305843009213693952 ≤ n ∧ n ≤ 2305843009213693952) (hd2 : d ≤ 2305843009213693952) : Ret Tryz.prog 170 [.int .i64 n, .int .i64 d] w (fun v _ => v = .int .i64 (fl n d)) := by
 refine ret_start (n := 17) Tryz.func170 rfl rfl rfl (fun a hS => ?_)
 have hq := tdiv_abs hd hn
 have hr := fl_rem (n := n) hd
 have ht : Int.tdiv n d * d = n - Int.tmod n d := by rw [Int.tmod_def]; have := Int.mul_comm (n.tdiv d) d; omega
 have htm : -d < Int.tmod n d ∧ Int.tmod n d < d := ⟨by have := Int.tmod_lt_of_pos (-n) hd; rw [Int.neg_tmod] at this; omega, Int.tmod_lt_of_pos n hd⟩
 refine wpIn_seq ?_
 refine wpIn_region_lit ?_
 refine st_v hS rfl rfl (run_assign hS rfl) fun a hS => wl_nil ?_
 refine wpIn_seq ?_
 refine wpIn_region_lit ?_
 refine st_v hS rfl rfl (run_move hS rfl) fun a hS => st_v hS rfl rfl (run_move hS rfl) fun a hS => st_v hS rfl rfl (run_div (t := Int.tdiv n d) hS rfl rfl (by omega) (rfl) (by omega)) fun a hS => st_v hS rfl rfl (run_assign hS rfl) fun a hS => wl_nil ?_
 refine wpIn_seq ?_
 refine wpIn_seq ?_
 refine wpIn_region_lit ?_
 refine st_v hS rfl rfl (run_move hS rfl) fun a hS => st_v hS rfl rfl (run_move hS rfl) fun a hS => st_v hS rfl rfl (run_mul (t := (n - Int.tmod n d)) hS rfl rfl (by exact ht) (by omega)) fun a hS => st_v hS rfl rfl (run_move hS rfl) fun a hS => st_v hS rfl rfl (run_bin hS rfl rfl rfl) fun a hS => wl_nil ?_
 refine st_cond hS rfl (fun hc1 => ?_) (fun hc1 => ?_)
 ·
  try simp only [ty] at hc1
  refine wpIn_region_lit ?_
  refine st_v hS rfl rfl (run_move hS rfl) fun a hS => st_v hS rfl rfl (run_sub (t := (Int.tdiv n d) - 1) hS rfl rfl (rfl) (by omega) (by omega)) fun a hS => st_v hS rfl rfl (run_assign hS rfl) fun a hS => wl_nil ?_
  refine wpIn_seq ?_
  refine wpIn_region_lit ?_
  refine st_v hS rfl rfl (run_move hS rfl) fun a hS => st_v hS rfl rfl (run_assign hS rfl) fun a hS => wl_nil ?_
  refine wpIn_ret ?_
  repeat (first | refine q_ret ?_ | refine q_block_ret ?_)
  refine hS.done (res1 (fn := Tryz.f170) (r1 := .tmp 4) rfl (rv_tmp hS rfl)) ?_
  rw [if_pos (by omega)] at hr; rw [hr]
 ·
  try simp only [ty] at hc1
  refine wpIn_skip ?_
  refine wpIn_seq ?_
  refine wpIn_region_lit ?_
  refine st_v hS rfl rfl (run_move hS rfl) fun a hS => st_v hS rfl rfl (run_assign hS rfl) fun a hS => wl_nil ?_
  refine wpIn_ret ?_
  repeat (first | refine q_ret ?_ | refine q_block_ret ?_)
  refine hS.done (res1 (fn := Tryz.f170) (r1 := .tmp 4) rfl (rv_tmp hS rfl)) ?_
  rw [if_neg (by omega)] at hr; rw [hr]
set_option maxHeartbeats 2000000 in
set_option maxRecDepth 100000 in
theorem spans_floor  {n : Int} {d : Int} {w : World}  (hd : 0 < d) (hn : -2305843009213693952 ≤ n ∧ n ≤ 2305843009213693952) (hd2 : d ≤ 2305843009213693952) : Ret Tryz.prog 118 [.int .i64 n, .int .i64 d] w (fun v _ => v = .int .i64 (fl n d)) := by
 refine ret_start (n := 16) Tryz.func118 rfl rfl rfl (fun a hS => ?_)
 have hq := tdiv_abs hd hn
 have hr := fl_rem (n := n) hd
 refine wpIn_seq ?_
 refine wpIn_region_lit ?_
 refine st_v hS rfl rfl (run_assign hS rfl) fun a hS => wl_nil ?_
 refine wpIn_seq ?_
 refine wpIn_region_lit ?_
 refine st_v hS rfl rfl (run_move hS rfl) fun a hS => st_v hS rfl rfl (run_move hS rfl) fun a hS => st_v hS rfl rfl (run_div (t := Int.tdiv n d) hS rfl rfl (by omega) (rfl) (by omega)) fun a hS => st_v hS rfl rfl (run_assign hS rfl) fun a hS => wl_nil ?_
 refine wpIn_seq ?_
 refine wpIn_seq ?_
 refine wpIn_region_lit ?_
 refine st_v hS rfl rfl (run_move hS rfl) fun a hS => st_v hS rfl rfl (run_move hS rfl) fun a hS => st_v hS rfl rfl (run_rem' (t := Int.tmod n d) hS rfl rfl (by omega) (rfl)) fun a hS => st_v hS rfl rfl (run_bin hS rfl rfl rfl) fun a hS => wl_nil ?_
 refine st_cond hS rfl (fun hc1 => ?_) (fun hc1 => ?_)
 ·
  try simp only [ty] at hc1
  refine wpIn_region_lit ?_
  refine st_v hS rfl rfl (run_move hS rfl) fun a hS => st_v hS rfl rfl (run_sub (t := (Int.tdiv n d) - 1) hS rfl rfl (rfl) (by omega) (by omega)) fun a hS => st_v hS rfl rfl (run_assign hS rfl) fun a hS => wl_nil ?_
  refine wpIn_seq ?_
  refine wpIn_region_lit ?_
  refine st_v hS rfl rfl (run_move hS rfl) fun a hS => st_v hS rfl rfl (run_assign hS rfl) fun a hS => wl_nil ?_
  refine wpIn_ret ?_
  repeat (first | refine q_ret ?_ | refine q_block_ret ?_)
  refine hS.done (res1 (fn := Tryz.f118) (r1 := .tmp 4) rfl (rv_tmp hS rfl)) ?_
  rw [if_pos (by assumption)] at hr; rw [hr]
 ·
  try simp only [ty] at hc1
  refine wpIn_skip ?_
  refine wpIn_seq ?_
  refine wpIn_region_lit ?_
  refine st_v hS rfl rfl (run_move hS rfl) fun a hS => st_v hS rfl rfl (run_assign hS rfl) fun a hS => wl_nil ?_
  refine wpIn_ret ?_
  repeat (first | refine q_ret ?_ | refine q_block_ret ?_)
  refine hS.done (res1 (fn := Tryz.f118) (r1 := .tmp 4) rfl (rv_tmp hS rfl)) ?_
  rw [if_neg (by omega)] at hr; rw [hr]
set_option maxHeartbeats 2000000 in
set_option maxRecDepth 100000 in
theorem spans_ceil  {n : Int} {d : Int} {w : World}  (hd : 0 < d) (hn : -2305843009213693952 ≤ n ∧ n ≤ 2305843009213693952) (hd2 : d ≤ 2305843009213693952) : Ret Tryz.prog 191 [.int .i64 n, .int .i64 d] w (fun v _ => v = .int .i64 (ce n d)) := by
 refine ret_start (n := 10) Tryz.func191 rfl rfl rfl (fun a hS => ?_)
 have hq := fl_abs (n := -n) hd (B := 2305843009213693952) (by omega) (by omega)
 refine wpIn_seq ?_
 refine wpIn_region_lit ?_
 refine st_v hS rfl rfl (run_assign hS rfl) fun a hS => wl_nil ?_
 refine wpIn_seq ?_
 refine wpIn_region_lit ?_
 refine st_v hS rfl rfl (run_move hS rfl) fun a hS => st_v hS rfl rfl (run_negI (t := (-n)) hS rfl (by omega) (by omega) (by omega)) fun a hS => st_v hS rfl rfl (run_move hS rfl) fun a hS => st_call (spans_floor (by omega) (by omega) (by omega)) Tryz.call118 hS rfl rfl rfl fun v W a hR hB hlt hS => ?_
 subst hR
 refine st_v hS rfl rfl (run_negI (t := (ce n d)) hS rfl (by unfold ce fl at *; omega) (by unfold ce fl at *; omega) (by unfold ce fl at *; omega)) fun a hS => st_v hS rfl rfl (run_assign hS rfl) fun a hS => wl_nil ?_
 refine wpIn_ret ?_
 repeat (first | refine q_ret ?_ | refine q_block_ret ?_)
 refine hS.done (res1 (fn := Tryz.f191) (r1 := .tmp 4) rfl (rv_tmp hS rfl)) ?_
 rfl
set_option maxHeartbeats 2000000 in
set_option maxRecDepth 100000 in
theorem spans_lies  (sl : SV) (l : List Int) (p : Span) {w : World} {Fl : Nat → Prop} (hl : Sl kInt Fl w sl l) (h0 : 0 < l.length) : Ret Tryz.prog 188 [.slice sl.a l.length sl.c, .agg (spanC p).toArray] w (fun v _ => v = .bool (lies l p.lo p.hi)) := by
 refine ret_start (n := 22) Tryz.func188 rfl rfl rfl (fun a hS => ?_)
 have Hl : ∀ W, Below w.heap.size w W → Sl kInt Fl W sl l := fun W hb => hl.at_ hb
 have hml := hl.len
 refine wpIn_seq ?_
 refine wpIn_region_lit ?_
 refine st_box_agg hS rfl rfl rfl fun W a b0 hS => st_v hS rfl rfl (run_assign hS rfl) fun a hS => wl_nil ?_
 refine wpIn_seq ?_
 refine st_draw (by kernel_rfl) (by kernel_rfl) hS ?_
 refine qt_v hS rfl rfl (fun W hB hS => run_fieldAddr fa31_0 hS rfl) fun a hS => qt_v hS rfl rfl (fun W hB hS => run_load_one (i := 0) Tryz.isAgg3 hS rfl rfl rfl) fun a hS => qt_v hS rfl rfl (fun W hB hS => run_move hS rfl) fun a hS => ?_
 obtain ⟨ad0, hA0, hL0⟩ := sl_int Hl (Below.refl _ _) (i := 0) (j := 0) (by omega) (by omega)
 refine qt_v hS rfl rfl (fun W hB hS => run_indexAddr Tryz.underlying22 Tryz.sizeOf3 hS rfl rfl hA0 (by omega) (by omega)) fun a hS => qt_v hS rfl rfl (fun W hB hS => run_load_cell Tryz.isAgg3 hS rfl (hL0 _ hS.below)) fun a hS => qt_v hS rfl rfl (fun W hB hS => run_bin hS rfl rfl rfl) fun a hS => qt_v hS rfl rfl (fun W hB hS => run_move hS rfl) fun a hS => ?_
 refine st_split (d := 11) hS rfl (fun hc1 hS => ?_) (fun hc1 hS => ?_)
 ·
  try simp only [ty] at hc1
  refine qt_v hS (hS.wanted rfl rfl rfl) rfl (fun W hB hS => run_fieldAddr fa31_1 hS rfl) fun a hS => qt_v hS (hS.wanted rfl rfl rfl) rfl (fun W hB hS => run_load_one (i := 0) Tryz.isAgg3 hS rfl rfl rfl) fun a hS => qt_v hS (hS.wanted rfl rfl rfl) rfl (fun W hB hS => run_move hS rfl) fun a hS => qt_v hS (hS.wanted rfl rfl rfl) rfl (fun W hB hS => run_move hS rfl) fun a hS => qt_v hS (hS.wanted rfl rfl rfl) rfl (fun W hB hS => run_len_slice Tryz.underlying22 hS rfl) fun a hS => qt_v hS (hS.wanted rfl rfl rfl) rfl (fun W hB hS => run_sub (t := ((l.length - 1 : Nat) : Int)) hS rfl rfl (by omega) (by omega) (by omega)) fun a hS => ?_
  obtain ⟨ad1, hA1, hL1⟩ := sl_int Hl (Below.refl _ _) (i := ((l.length - 1 : Nat) : Int)) (j := l.length - 1) (by omega) (by omega)
  refine qt_v hS (hS.wanted rfl rfl rfl) rfl (fun W hB hS => run_indexAddr Tryz.underlying22 Tryz.sizeOf3 hS rfl rfl hA1 (by omega) (by omega)) fun a hS => qt_v hS (hS.wanted rfl rfl rfl) rfl (fun W hB hS => run_load_cell Tryz.isAgg3 hS rfl (hL1 _ hS.below)) fun a hS => qt_v hS (hS.wanted rfl rfl rfl) rfl (fun W hB hS => run_bin hS rfl rfl rfl) fun a hS => qt_v hS rfl rfl (fun W hB hS => run_pick_t hS rfl rfl) fun a hS => qt_v hS rfl rfl (fun W hB hS => run_assign hS rfl) fun a hS => qt_nil hS fun W hS => ?_
  refine wpIn_ret ?_
  repeat (first | refine q_ret ?_ | refine q_block_ret ?_)
  refine hS.done (res1 (fn := Tryz.f188) (r1 := .tmp 4) rfl (rv_tmp hS rfl)) ?_
  refine vb ?_; simp only [lies, Bool.and_eq_true, decide_eq_true_eq, Bool.false_eq_true, false_iff]; unfold lastOf; omega
 ·
  try simp only [ty] at hc1
  refine qt_skip hS (hS.unwanted rfl rfl rfl rfl) rfl fun a hS => qt_skip hS (hS.unwanted rfl rfl rfl rfl) rfl fun a hS => qt_skip hS (hS.unwanted rfl rfl rfl rfl) rfl fun a hS => qt_skip hS (hS.unwanted rfl rfl rfl rfl) rfl fun a hS => qt_skip hS (hS.unwanted rfl rfl rfl rfl) rfl fun a hS => qt_skip hS (hS.unwanted rfl rfl rfl rfl) rfl fun a hS => qt_skip hS (hS.unwanted rfl rfl rfl rfl) rfl fun a hS => qt_skip hS (hS.unwanted rfl rfl rfl rfl) rfl fun a hS => qt_skip hS (hS.unwanted rfl rfl rfl rfl) rfl fun a hS => qt_v hS rfl rfl (fun W hB hS => run_pick_f hS rfl rfl) fun a hS => qt_v hS rfl rfl (fun W hB hS => run_assign hS rfl) fun a hS => qt_nil hS fun W hS => ?_
  refine wpIn_ret ?_
  repeat (first | refine q_ret ?_ | refine q_block_ret ?_)
  refine hS.done (res1 (fn := Tryz.f188) (r1 := .tmp 4) rfl (rv_tmp hS rfl)) ?_
  refine vb ?_; simp only [lies, Bool.and_eq_true, decide_eq_true_eq, Bool.false_eq_true, false_iff]; unfold lastOf; omega
set_option maxHeartbeats 2000000 in
set_option maxRecDepth 100000 in
theorem cmp_isNaN  {x : Int} {w : World}   : Ret Tryz.prog 212 [.int .i64 x] w (fun v _ => v = .bool false) := by
 refine ret_start (n := 6) Tryz.func212 rfl rfl rfl (fun a hS => ?_)
 refine wpIn_seq ?_
 refine wpIn_region_lit ?_
 refine st_v hS rfl rfl (run_assign hS rfl) fun a hS => wl_nil ?_
 refine wpIn_seq ?_
 refine wpIn_region_lit ?_
 refine st_v hS rfl rfl (run_move hS rfl) fun a hS => st_v hS rfl rfl (run_move hS rfl) fun a hS => st_v hS rfl rfl (run_bin hS rfl rfl rfl) fun a hS => st_v hS rfl rfl (run_assign hS rfl) fun a hS => wl_nil ?_
 refine wpIn_ret ?_
 repeat (first | refine q_ret ?_ | refine q_block_ret ?_)
 refine hS.done (res1 (fn := Tryz.f212) (r1 := .tmp 2) rfl (rv_tmp hS rfl)) ?_
 simp
set_option maxHeartbeats 2000000 in
set_option maxRecDepth 100000 in
theorem slices_isNaN  {x : Int} {w : World}   : Ret Tryz.prog 254 [.int .i64 x] w (fun v _ => v = .bool false) := by
 refine ret_start (n := 6) Tryz.func254 rfl rfl rfl (fun a hS => ?_)
 refine wpIn_seq ?_
 refine wpIn_region_lit ?_
 refine st_v hS rfl rfl (run_assign hS rfl) fun a hS => wl_nil ?_
 refine wpIn_seq ?_
 refine wpIn_region_lit ?_
 refine st_v hS rfl rfl (run_move hS rfl) fun a hS => st_v hS rfl rfl (run_move hS rfl) fun a hS => st_v hS rfl rfl (run_bin hS rfl rfl rfl) fun a hS => st_v hS rfl rfl (run_assign hS rfl) fun a hS => wl_nil ?_
 refine wpIn_ret ?_
 repeat (first | refine q_ret ?_ | refine q_block_ret ?_)
 refine hS.done (res1 (fn := Tryz.f254) (r1 := .tmp 2) rfl (rv_tmp hS rfl)) ?_
 simp
set_option maxHeartbeats 2000000 in
set_option maxRecDepth 100000 in
theorem cmp_Less  {x : Int} {y : Int} {w : World}   : Ret Tryz.prog 253 [.int .i64 x, .int .i64 y] w (fun v _ => v = .bool (decide (x < y))) := by
 refine ret_start (n := 17) Tryz.func253 rfl rfl rfl (fun a hS => ?_)
 refine wpIn_seq ?_
 refine wpIn_region_lit ?_
 refine st_v hS rfl rfl (run_assign hS rfl) fun a hS => wl_nil ?_
 refine wpIn_seq ?_
 refine wpIn_region_lit ?_
 refine st_v hS rfl rfl (run_move hS rfl) fun a hS => st_call (cmp_isNaN) Tryz.call212 hS rfl rfl rfl fun v W a hR hB hlt hS => ?_
 subst hR
 refine st_v hS rfl rfl (run_move hS rfl) fun a hS => st_skip hS (hS.unwanted rfl rfl rfl rfl) rfl fun a hS => st_skip hS (hS.unwanted rfl rfl rfl rfl) rfl fun a hS => st_skip hS (hS.unwanted rfl rfl rfl rfl) rfl fun a hS => st_v hS rfl rfl (run_pick_f hS rfl rfl) fun a hS => st_v hS rfl rfl (run_move hS rfl) fun a hS => st_v hS (hS.wanted rfl rfl rfl) rfl (run_move hS rfl) fun a hS => st_v hS (hS.wanted rfl rfl rfl) rfl (run_move hS rfl) fun a hS => st_v hS (hS.wanted rfl rfl rfl) rfl (run_bin hS rfl rfl rfl) fun a hS => st_v hS rfl rfl (run_pick_f hS rfl rfl) fun a hS => st_v hS rfl rfl (run_assign hS rfl) fun a hS => wl_nil ?_
 refine wpIn_ret ?_
 repeat (first | refine q_ret ?_ | refine q_block_ret ?_)
 refine hS.done (res1 (fn := Tryz.f253) (r1 := .tmp 4) rfl (rv_tmp hS rfl)) ?_
 rfl
set_option maxHeartbeats 2000000 in
set_option maxRecDepth 100000 in
theorem slices_search  (sl : SV) (l : List Int) {x : Int} {w : World} {Fl : Nat → Prop} (hl : Sl kInt Fl w sl l) (hasc : Asc l) : Ret Tryz.prog 252 [.slice sl.a l.length sl.c, .int .i64 x] w (fun v _ => v = .tuple #[.int .i64 ((lowB l x : Nat) : Int), .bool (decide (lowB l x < l.length) && decide (ix l (lowB l x) = x))]) := by
 refine ret_start (n := 54) Tryz.func252 rfl rfl rfl (fun a hS => ?_)
 have Hl : ∀ W, Below w.heap.size w W → Sl kInt Fl W sl l := fun W hb => hl.at_ hb
 have hml := hl.len
 refine wpIn_seq ?_
 refine wpIn_region_lit ?_
 refine st_v hS rfl rfl (run_assign hS rfl) fun a hS => st_v hS rfl rfl (run_assign hS rfl) fun a hS => wl_nil ?_
 refine wpIn_seq ?_
 refine wpIn_region_lit ?_
 refine st_v hS rfl rfl (run_move hS rfl) fun a hS => st_v hS rfl rfl (run_len_slice Tryz.underlying22 hS rfl) fun a hS => st_v hS rfl rfl (run_assign hS rfl) fun a hS => wl_nil ?_
 refine wpIn_seq ?_
 refine wpIn_region_lit ?_
 refine st_v hS rfl rfl (run_move hS rfl) fun a hS => st_v hS rfl rfl (run_assign hS rfl) fun a hS => st_v hS rfl rfl (run_assign hS rfl) fun a hS => wl_nil ?_
 refine wpIn_seq ?_
 refine wpIn_block ?_
 refine st_loop2 (α := Nat × Nat) (fun z => [(7, .int .i64 ((z.1 : Nat) : Int)), (8, .int .i64 ((z.2 : Nat) : Int))]) [(0, _), (1, _), (4, _), (5, _), (6, _)] (fun l _ => l) (fun z => z.1 ≤ z.2 ∧ z.2 ≤ l.length ∧ (z.1 = 0 ∨ ix l (z.1 - 1) < x) ∧ (z.2 = l.length ∨ ¬ ix l z.2 < x)) (fun z => z.2 - z.1) (⟨0, l.length⟩) hS (Sub.cons rfl (Sub.cons rfl (Sub.cons rfl (Sub.cons rfl (Sub.cons rfl (Sub.cons rfl (Sub.cons rfl Sub.nil))))))) rfl (⟨Nat.zero_le _, Nat.le_refl _, .inl rfl, .inl rfl⟩) (fun z W a hφ hS => ?_)
 obtain ⟨i, j⟩ := z
 dsimp only [setB, List.cons_append, List.nil_append, List.take] at hS hφ
 obtain ⟨hij, hj, h1, h2⟩ := hφ
 refine wpIn_seq ?_
 refine wpIn_seq ?_
 refine wpIn_region_lit ?_
 refine st_v hS rfl rfl (run_move hS rfl) fun a hS => st_v hS rfl rfl (run_move hS rfl) fun a hS => st_v hS rfl rfl (run_bin hS rfl rfl rfl) fun a hS => wl_nil ?_
 refine st_cond hS rfl (fun hc1 => ?_) (fun hc1 => ?_)
 ·
  try simp only [ty] at hc1
  refine wpIn_skip ?_
  refine wpIn_block ?_
  refine wpIn_seq ?_
  refine wpIn_region_lit ?_
  refine st_v hS rfl rfl (run_move hS rfl) fun a hS => st_v hS rfl rfl (run_move hS rfl) fun a hS => st_v hS rfl rfl (run_add (t := ((i + j : Nat) : Int)) hS rfl rfl (by omega) (by omega) (by omega)) fun a hS => st_v hS rfl rfl (run_conv Tryz.underlying3 Tryz.underlying246 hS rfl (q := ((i + j : Nat) : Int)) (by simp [IntKind.wrap, IntKind.bits, IntKind.signed] <;> omega)) fun a hS => st_v hS rfl rfl (run_shr1 hS rfl rfl (by decide) (q := (((i + j) / 2 : Nat) : Int)) (by rw [Int.fdiv_eq_ediv_of_nonneg _ (by omega)]; omega)) fun a hS => st_v hS rfl rfl (run_conv Tryz.underlying246 Tryz.underlying3 hS rfl (q := (((i + j) / 2 : Nat) : Int)) (by simp [IntKind.wrap, IntKind.bits, IntKind.signed] <;> omega)) fun a hS => st_v hS rfl rfl (run_assign hS rfl) fun a hS => wl_nil ?_
  refine wpIn_seq ?_
  refine wpIn_region_lit ?_
  refine st_v hS rfl rfl (run_move hS rfl) fun a hS => st_v hS rfl rfl (run_move hS rfl) fun a hS => ?_
  obtain ⟨ad0, hA0, hL0⟩ := sl_int Hl (Below.refl _ _) (i := (((i + j) / 2 : Nat) : Int)) (j := ((i + j) / 2)) (by omega) (by omega)
  refine st_v hS rfl rfl (run_indexAddr Tryz.underlying22 Tryz.sizeOf3 hS rfl rfl hA0 (by omega) (by omega)) fun a hS => st_v hS rfl rfl (run_load_cell Tryz.isAgg3 hS rfl (hL0 _ hS.below)) fun a hS => st_v hS rfl rfl (run_move hS rfl) fun a hS => st_call (cmp_Less) Tryz.call253 hS rfl rfl rfl fun v W a hR hB hlt hS => ?_
  subst hR
  refine wl_nil ?_
  refine st_cond hS rfl (fun hc2 => ?_) (fun hc2 => ?_)
  ·
   try simp only [ty] at hc2
   refine wpIn_region_lit ?_
   refine st_v hS rfl rfl (run_move hS rfl) fun a hS => st_v hS rfl rfl (run_add (t := (((((i + j) / 2)) + 1 : Nat) : Int)) hS rfl rfl (by omega) (by omega) (by omega)) fun a hS => st_v hS rfl rfl (run_assign hS rfl) fun a hS => wl_nil ?_
   refine ⟨⟨(i + j) / 2 + 1, j⟩, ⟨⟨by dsimp only; omega, hj, .inr (by simpa using hc2), h2⟩, by dsimp only; omega⟩, (hS.sub (Sub.cons rfl (Sub.cons rfl (Sub.cons rfl (Sub.cons rfl (Sub.cons rfl (Sub.cons rfl (Sub.cons rfl Sub.nil))))))))⟩
  ·
   try simp only [ty] at hc2
   refine wpIn_region_lit ?_
   refine st_v hS rfl rfl (run_move hS rfl) fun a hS => st_v hS rfl rfl (run_assign hS rfl) fun a hS => wl_nil ?_
   refine ⟨⟨i, (i + j) / 2⟩, ⟨⟨by dsimp only; omega, by dsimp only; omega, h1, .inr (by simpa using hc2)⟩, by dsimp only; omega⟩, (hS.sub (Sub.cons rfl (Sub.cons rfl (Sub.cons rfl (Sub.cons rfl (Sub.cons rfl (Sub.cons rfl (Sub.cons rfl Sub.nil))))))))⟩
 ·
  try simp only [ty] at hc1
  refine wpIn_exit ?_
  refine wpIn_seq ?_
  refine wpIn_region_lit ?_
  refine st_v hS rfl rfl (run_move hS rfl) fun a hS => st_v hS rfl rfl (run_move hS rfl) fun a hS => st_v hS rfl rfl (run_move hS rfl) fun a hS => st_v hS rfl rfl (run_bin hS rfl rfl rfl) fun a hS => st_v hS rfl rfl (run_move hS rfl) fun a hS => ?_
  refine st_split (d := 35) hS rfl (fun hc3 hS => ?_) (fun hc3 hS => ?_)
  ·
   try simp only [ty] at hc3
   refine st_v hS (hS.wanted rfl rfl rfl) rfl (run_move hS rfl) fun a hS => st_v hS (hS.wanted rfl rfl rfl) rfl (run_move hS rfl) fun a hS => ?_
   obtain ⟨ad1, hA1, hL1⟩ := sl_int Hl (Below.refl _ _) (i := ((i : Nat) : Int)) (j := i) (by omega) (by omega)
   refine st_v hS (hS.wanted rfl rfl rfl) rfl (run_indexAddr Tryz.underlying22 Tryz.sizeOf3 hS rfl rfl hA1 (by omega) (by omega)) fun a hS => st_v hS (hS.wanted rfl rfl rfl) rfl (run_load_cell Tryz.isAgg3 hS rfl (hL1 _ hS.below)) fun a hS => st_v hS (hS.wanted rfl rfl rfl) rfl (run_move hS rfl) fun a hS => st_v hS (hS.wanted rfl rfl rfl) rfl (run_bin hS rfl rfl rfl) fun a hS => st_v hS (hS.wanted rfl rfl rfl) rfl (run_move hS rfl) fun a hS => ?_
   refine st_split (d := 42) hS rfl (fun hc4 hS => ?_) (fun hc4 hS => ?_)
   ·
    try simp only [ty] at hc4
    refine st_skip hS (hS.unwanted rfl rfl rfl rfl) rfl fun a hS => st_skip hS (hS.unwanted rfl rfl rfl rfl) rfl fun a hS => st_skip hS (hS.unwanted rfl rfl rfl rfl) rfl fun a hS => st_skip hS (hS.unwanted rfl rfl rfl rfl) rfl fun a hS => st_skip hS (hS.unwanted rfl rfl rfl rfl) rfl fun a hS => st_skip hS (hS.unwanted rfl rfl rfl rfl) rfl fun a hS => st_skip hS (hS.unwantedU rfl rfl rfl) rfl fun a hS => st_skip hS (hS.unwantedU rfl rfl rfl) rfl fun a hS => st_skip hS (hS.unwanted rfl rfl rfl rfl) rfl fun a hS => st_v hS (hS.wanted rfl rfl rfl) rfl (run_pick_t hS rfl rfl) fun a hS => st_v hS rfl rfl (run_pick_t hS rfl rfl) fun a hS => st_v hS rfl rfl (run_assign hS rfl) fun a hS => st_v hS rfl rfl (run_assign hS rfl) fun a hS => wl_nil ?_
    have hS := hS.sub (κ' := [(0, _), (1, _), (4, _), (5, _), (6, _), (7, _), (8, _)]) (Sub.cons rfl (Sub.cons rfl (Sub.cons rfl (Sub.cons rfl (Sub.cons rfl (Sub.cons rfl (Sub.cons rfl Sub.nil)))))))
    refine wpIn_ret ?_
    repeat (first | refine q_ret ?_ | refine q_block_ret ?_)
    refine hS.done (res2 (fn := Tryz.f252) (r1 := .tmp 4) (r2 := .tmp 5) rfl (rv_tmp hS rfl) (rv_tmp hS rfl)) ?_
    have e := lowB_of hasc (x := x) (i := i) (by omega) h1 (by rwa [show i = j by omega]); subst e; simp [hc1, hc3, hc4] <;> omega
   ·
    try simp only [ty] at hc4
    refine st_v hS (hS.wanted rfl rfl rfl) rfl (run_move hS rfl) fun a hS => st_v hS (hS.wanted rfl rfl rfl) rfl (run_move hS rfl) fun a hS => ?_
    obtain ⟨ad2, hA2, hL2⟩ := sl_int Hl (Below.refl _ _) (i := ((i : Nat) : Int)) (j := i) (by omega) (by omega)
    refine st_v hS (hS.wanted rfl rfl rfl) rfl (run_indexAddr Tryz.underlying22 Tryz.sizeOf3 hS rfl rfl hA2 (by omega) (by omega)) fun a hS => st_v hS (hS.wanted rfl rfl rfl) rfl (run_load_cell Tryz.isAgg3 hS rfl (hL2 _ hS.below)) fun a hS => st_call (slices_isNaN) Tryz.call254 hS (hS.wanted rfl rfl rfl) rfl rfl fun v W a hR hB hlt hS => ?_
    subst hR
    refine st_v hS (hS.wanted rfl rfl rfl) rfl (run_move hS rfl) fun a hS => st_skip hS (hS.unwanted rfl rfl rfl rfl) rfl fun a hS => st_skip hS (hS.unwanted rfl rfl rfl rfl) rfl fun a hS => st_v hS (hS.wanted rfl rfl rfl) rfl (run_pick_f hS rfl rfl) fun a hS => st_v hS (hS.wanted rfl rfl rfl) rfl (run_pick_f hS rfl rfl) fun a hS => st_v hS rfl rfl (run_pick_t hS rfl rfl) fun a hS => st_v hS rfl rfl (run_assign hS rfl) fun a hS => st_v hS rfl rfl (run_assign hS rfl) fun a hS => wl_nil ?_
    have hS := hS.sub (κ' := [(0, _), (1, _), (4, _), (5, _), (6, _), (7, _), (8, _)]) (Sub.cons rfl (Sub.cons rfl (Sub.cons rfl (Sub.cons rfl (Sub.cons rfl (Sub.cons rfl (Sub.cons rfl Sub.nil)))))))
    refine wpIn_ret ?_
    repeat (first | refine q_ret ?_ | refine q_block_ret ?_)
    refine hS.done (res2 (fn := Tryz.f252) (r1 := .tmp 4) (r2 := .tmp 5) rfl (rv_tmp hS rfl) (rv_tmp hS rfl)) ?_
    have e := lowB_of hasc (x := x) (i := i) (by omega) h1 (by rwa [show i = j by omega]); subst e; simp [hc1, hc3, hc4] <;> omega
  ·
   try simp only [ty] at hc3
   refine st_skip hS (hS.unwanted rfl rfl rfl rfl) rfl fun a hS => st_skip hS (hS.unwanted rfl rfl rfl rfl) rfl fun a hS => st_skip hS (hS.unwanted rfl rfl rfl rfl) rfl fun a hS => st_skip hS (hS.unwanted rfl rfl rfl rfl) rfl fun a hS => st_skip hS (hS.unwanted rfl rfl rfl rfl) rfl fun a hS => st_skip hS (hS.unwanted rfl rfl rfl rfl) rfl fun a hS => st_skip hS (hS.unwanted rfl rfl rfl rfl) rfl fun a hS => st_skip hS (hS.unwantedU rfl rfl rfl) rfl fun a hS => st_skip hS (hS.unwantedU rfl rfl rfl) rfl fun a hS => st_skip hS (hS.unwantedU rfl rfl rfl) rfl fun a hS => st_skip hS (hS.unwantedU rfl rfl rfl) rfl fun a hS => st_skip hS (hS.unwantedU rfl rfl rfl) rfl fun a hS => st_skip hS (hS.unwantedU rfl rfl rfl) rfl fun a hS => st_skip hS (hS.unwantedU rfl rfl rfl) rfl fun a hS => st_skip hS (hS.unwantedU rfl rfl rfl) rfl fun a hS => st_skip hS (hS.unwantedU rfl rfl rfl) rfl fun a hS => st_skip hS (hS.unwanted rfl rfl rfl rfl) rfl fun a hS => st_v hS rfl rfl (run_pick_f hS rfl rfl) fun a hS => st_v hS rfl rfl (run_assign hS rfl) fun a hS => st_v hS rfl rfl (run_assign hS rfl) fun a hS => wl_nil ?_
   have hS := hS.sub (κ' := [(0, _), (1, _), (4, _), (5, _), (6, _), (7, _), (8, _)]) (Sub.cons rfl (Sub.cons rfl (Sub.cons rfl (Sub.cons rfl (Sub.cons rfl (Sub.cons rfl (Sub.cons rfl Sub.nil)))))))
   refine wpIn_ret ?_
   repeat (first | refine q_ret ?_ | refine q_block_ret ?_)
   refine hS.done (res2 (fn := Tryz.f252) (r1 := .tmp 4) (r2 := .tmp 5) rfl (rv_tmp hS rfl) (rv_tmp hS rfl)) ?_
   have e := lowB_of hasc (x := x) (i := i) (by omega) h1 (by rwa [show i = j by omega]); subst e; simp [hc1, hc3] <;> omega
set_option maxHeartbeats 2000000 in
set_option maxRecDepth 100000 in
theorem spans_cell  (sl : SV) (l : List Int) {x : Int} {w : World} {Fl : Nat → Prop} (hl : Sl kInt Fl w sl l) (hax : Axis l) : Ret Tryz.prog 250 [.slice sl.a l.length sl.c, .int .i64 x] w (fun v _ => v = .int .i64 ((cellAt l x : Nat) : Int)) := by
 refine ret_start (n := 18) Tryz.func250 rfl rfl rfl (fun a hS => ?_)
 have Hl : ∀ W, Below w.heap.size w W → Sl kInt Fl W sl l := fun W hb => hl.at_ hb
 have hml := hl.len
 have h2 := hax.two
 refine wpIn_seq ?_
 refine wpIn_region_lit ?_
 refine st_v hS rfl rfl (run_assign hS rfl) fun a hS => wl_nil ?_
 refine wpIn_seq ?_
 refine wpIn_region_lit ?_
 refine st_v hS rfl rfl (run_move hS rfl) fun a hS => st_v hS rfl rfl (run_move hS rfl) fun a hS => st_v hS rfl rfl (run_len_slice Tryz.underlying22 hS rfl) fun a hS => st_v hS rfl rfl (run_sub (t := ((l.length - 1 : Nat) : Int)) hS rfl rfl (by omega) (by omega) (by omega)) fun a hS => ?_
 have hC0 := (Hl _ (Below.refl _ _)).1
 have hle0 : 1 ≤ l.length - 1 ∧ l.length - 1 ≤ l.length := by omega
 refine st_v hS rfl rfl (run_part (lo' := 1) (hi' := l.length - 1) (L := (((l.drop 1).take ((l.length - 1) - 1))).length) Tryz.underlying22 Tryz.sizeOf3 hS rfl rfl rfl (by omega) (by omega) hle0.1 (Nat.le_trans hle0.2 hC0) (by simp <;> omega)) fun a hS => st_v hS rfl rfl (run_move hS rfl) fun a hS => st_call (slices_search (partSV sl 1 1) ((l.drop 1).take ((l.length - 1) - 1)) ((fun W hC => (Hl W hC).part hle0.1 hle0.2) _ hS.below) (by exact inner_asc hax)) Tryz.call252 hS rfl rfl rfl fun v W a hR hB hlt hS => ?_
 subst hR
 refine st_v hS rfl rfl (run_move hS rfl) fun a hS => st_v hS rfl rfl (run_extract hS rfl rfl) fun a hS => st_v hS rfl rfl (run_extract hS rfl rfl) fun a hS => st_v hS rfl rfl (run_assign hS rfl) fun a hS => st_v hS rfl rfl (run_assign hS rfl) fun a hS => wl_nil ?_
 refine wpIn_seq ?_
 refine wpIn_region_lit ?_
 refine st_v hS rfl rfl (run_move hS rfl) fun a hS => st_v hS rfl rfl (run_assign hS rfl) fun a hS => wl_nil ?_
 refine wpIn_ret ?_
 repeat (first | refine q_ret ?_ | refine q_block_ret ?_)
 refine hS.done (res1 (fn := Tryz.f250) (r1 := .tmp 4) rfl (rv_tmp hS rfl)) ?_
 rw [cellAt_lowB]; rfl
def fracAt (t : Tab) (x y : Int) : Span := ⟨num t (cellAt t.X x) (cellAt t.Y y) x y, den t (cellAt t.X x) (cellAt t.Y y)⟩
set_option maxHeartbeats 2000000 in
set_option maxRecDepth 100000 in
theorem spans_at  (Vt : TV) (t : Tab) {x : Int} {y : Int} {w : World} {Ft : Nat → Prop} (ht : TabR Ft w Vt t) (hok : tabOk t = true) (hx : ix t.X 0 ≤ x ∧ x ≤ lastOf t.X) (hy : ix t.Y 0 ≤ y ∧ y ≤ lastOf t.Y) : Ret Tryz.prog 234 [.agg (tabC Vt t).toArray, .int .i64 x, .int .i64 y] w (fun v _ => v = .agg (spanC (fracAt t x y)).toArray) := by
 refine ret_start (n := 113) Tryz.func234 rfl rfl rfl (fun a hS => ?_)
 have Ht : ∀ W, Below w.heap.size w W → TabR Ft W Vt t := fun W hb => ht.move (keep_of hb)
 have hmtx := ht.1.len
 have hmty := ht.2.1.len
 have hmtv := ht.2.2.len
 obtain ⟨hX, hY, hV, hR⟩ := tab_axes hok
 have hp := part4 hok (cellAt_in hX hx.1 hx.2) (cellAt_in hY hy.1 hy.2)
 have i1 := hp.i1; have k1 := hp.k1; have ha := hp.a; have hb := hp.b; have hc := hp.c; have hd := hp.d; have wx := hp.wx; have wy := hp.wy; have hrows := hp.rows
 have c0 := hp.cols (cellAt t.X x) (by omega); have c1 := hp.cols (cellAt t.X x + 1) (by omega)
 have q1 := m2 ha hc; have q2 := m2 hb hc; have q3 := m2 ha hd; have q4 := m2 hb hd
 have q5 := m2 (a := ix t.X (cellAt t.X x + 1) - ix t.X (cellAt t.X x)) (b := ix t.Y (cellAt t.Y y + 1) - ix t.Y (cellAt t.Y y)) (by omega) (by omega)
 have p1 := m3 q1 (hp.v (cellAt t.X x) (cellAt t.Y y) (by omega) (by omega))
 have p2 := m3 q2 (hp.v (cellAt t.X x + 1) (cellAt t.Y y) (by omega) (by omega))
 have p3 := m3 q3 (hp.v (cellAt t.X x) (cellAt t.Y y + 1) (by omega) (by omega))
 have p4 := m3 q4 (hp.v (cellAt t.X x + 1) (cellAt t.Y y + 1) (by omega) (by omega))
 refine wpIn_seq ?_
 refine wpIn_region_lit ?_
 refine st_box_agg hS rfl rfl rfl fun W a b0 hS => st_alloc_agg Tryz.zeroValue160 hS rfl rfl fun W a b1 hS => wl_nil ?_
 refine wpIn_seq ?_
 refine st_draw (by kernel_rfl) (by kernel_rfl) hS ?_
 refine qt_v hS rfl rfl (fun W hB hS => run_fieldAddr fa25_0 hS rfl) fun a hS => qt_v hS rfl rfl (fun W hB hS => run_load_one (i := 1) Tryz.isAgg22 hS rfl rfl rfl) fun a hS => qt_v hS rfl rfl (fun W hB hS => run_move hS rfl) fun a hS => qt_call hS rfl rfl Tryz.call250 rfl (fun W hB hS => spans_cell Vt.x t.X ((fun W hC => (Ht W hC).1) _ hS.below) (by assumption)) fun a hS => qt_v hS rfl rfl (fun W hB hS => run_fieldAddr fa25_1 hS rfl) fun a hS => qt_v hS rfl rfl (fun W hB hS => run_load_one (i := 1) Tryz.isAgg22 hS rfl rfl rfl) fun a hS => qt_v hS rfl rfl (fun W hB hS => run_move hS rfl) fun a hS => qt_call hS rfl rfl Tryz.call250 rfl (fun W hB hS => spans_cell Vt.y t.Y ((fun W hC => (Ht W hC).2.1) _ hS.below) (by assumption)) fun a hS => qt_v hS rfl rfl (fun W hB hS => run_assign hS rfl) fun a hS => qt_v hS rfl rfl (fun W hB hS => run_assign hS rfl) fun a hS => qt_nil hS fun W hS => ?_
 refine wpIn_seq ?_
 have hlt0 := fun B hB => hS.lt (b := B) hB
 refine st_mix (k := 17) (by kernel_rfl) (by kernel_rfl) hS rfl rfl ?_
 refine mx_v (fun a W hS hB => run_fieldAddr fa25_0 hS rfl) <| mx_v (fun a W hS hB => run_load_one (i := 1) Tryz.isAgg22 hS rfl rfl rfl) <| mx_v (fun a W hS hB => run_move hS rfl) <| mx_v (fun a W hS hB => run_add (t := (((cellAt t.X x) + 1 : Nat) : Int)) hS rfl rfl (by omega) (by omega) (by omega)) <| ?_
 obtain ⟨ad0, hA0, hL0⟩ := sl_int (fun W hC => (Ht W hC).1) (Below.refl _ _) (i := (((cellAt t.X x) + 1 : Nat) : Int)) (j := (cellAt t.X x) + 1) (by omega) (by omega)
 refine mx_v (fun a W hS hB => run_indexAddr Tryz.underlying22 Tryz.sizeOf3 hS rfl rfl hA0 (by omega) (by omega)) <| mx_v (fun a W hS hB => run_load_cell Tryz.isAgg3 hS rfl (hL0 _ hS.below)) <| mx_v (fun a W hS hB => run_move hS rfl) <| mx_v (fun a W hS hB => run_sub (t := ((ix t.X ((cellAt t.X x) + 1))) - x) hS rfl rfl (rfl) (by omega) (by omega)) <| mx_v (fun a W hS hB => run_move hS rfl) <| mx_v (fun a W hS hB => run_fieldAddr fa25_0 hS rfl) <| mx_v (fun a W hS hB => run_load_one (i := 1) Tryz.isAgg22 hS rfl rfl rfl) <| mx_v (fun a W hS hB => run_move hS rfl) <| ?_
 obtain ⟨ad1, hA1, hL1⟩ := sl_int (fun W hC => (Ht W hC).1) (Below.refl _ _) (i := ((cellAt t.X x : Nat) : Int)) (j := cellAt t.X x) (by omega) (by omega)
 refine mx_v (fun a W hS hB => run_indexAddr Tryz.underlying22 Tryz.sizeOf3 hS rfl rfl hA1 (by omega) (by omega)) <| mx_v (fun a W hS hB => run_load_cell Tryz.isAgg3 hS rfl (hL1 _ hS.below)) <| mx_v (fun a W hS hB => run_sub (t := x - ((ix t.X (cellAt t.X x)))) hS rfl rfl (rfl) (by omega) (by omega)) <| mx_v (fun a W hS hB => run_assign hS rfl) <| mx_v (fun a W hS hB => run_assign hS rfl) <| ?_
 refine mx_end fun a W bs us hS hB hL => ?_
 dsimp only [kall, ball, List.cons_append, List.nil_append] at hS
 refine wl_nil ?_
 refine wpIn_seq ?_
 have hlt0 := fun B hB => hS.lt (b := B) hB
 refine st_mix (k := 17) (by kernel_rfl) (by kernel_rfl) hS rfl rfl ?_
 refine mx_v (fun a W hS hB => run_fieldAddr fa25_1 hS rfl) <| mx_v (fun a W hS hB => run_load_one (i := 1) Tryz.isAgg22 hS rfl rfl rfl) <| mx_v (fun a W hS hB => run_move hS rfl) <| mx_v (fun a W hS hB => run_add (t := (((cellAt t.Y y) + 1 : Nat) : Int)) hS rfl rfl (by omega) (by omega) (by omega)) <| ?_
 obtain ⟨ad2, hA2, hL2⟩ := sl_int (fun W hC => (Ht W hC).2.1) (Below.refl _ _) (i := (((cellAt t.Y y) + 1 : Nat) : Int)) (j := (cellAt t.Y y) + 1) (by omega) (by omega)
 refine mx_v (fun a W hS hB => run_indexAddr Tryz.underlying22 Tryz.sizeOf3 hS rfl rfl hA2 (by omega) (by omega)) <| mx_v (fun a W hS hB => run_load_cell Tryz.isAgg3 hS rfl (hL2 _ hS.below)) <| mx_v (fun a W hS hB => run_move hS rfl) <| mx_v (fun a W hS hB => run_sub (t := ((ix t.Y ((cellAt t.Y y) + 1))) - y) hS rfl rfl (rfl) (by omega) (by omega)) <| mx_v (fun a W hS hB => run_move hS rfl) <| mx_v (fun a W hS hB => run_fieldAddr fa25_1 hS rfl) <| mx_v (fun a W hS hB => run_load_one (i := 1) Tryz.isAgg22 hS rfl rfl rfl) <| mx_v (fun a W hS hB => run_move hS rfl) <| ?_
 obtain ⟨ad3, hA3, hL3⟩ := sl_int (fun W hC => (Ht W hC).2.1) (Below.refl _ _) (i := ((cellAt t.Y y : Nat) : Int)) (j := cellAt t.Y y) (by omega) (by omega)
 refine mx_v (fun a W hS hB => run_indexAddr Tryz.underlying22 Tryz.sizeOf3 hS rfl rfl hA3 (by omega) (by omega)) <| mx_v (fun a W hS hB => run_load_cell Tryz.isAgg3 hS rfl (hL3 _ hS.below)) <| mx_v (fun a W hS hB => run_sub (t := y - ((ix t.Y (cellAt t.Y y)))) hS rfl rfl (rfl) (by omega) (by omega)) <| mx_v (fun a W hS hB => run_assign hS rfl) <| mx_v (fun a W hS hB => run_assign hS rfl) <| ?_
 refine mx_end fun a W bs us hS hB hL => ?_
 dsimp only [kall, ball, List.cons_append, List.nil_append] at hS
 refine wl_nil ?_
 have hS := hS.sub (κ' := [(0, _), (1, _), (2, _), (3, _), (6, _), (7, _), (8, _), (9, _), (10, _), (11, _), (12, _)]) (Sub.cons rfl (Sub.cons rfl (Sub.cons rfl (Sub.cons rfl (Sub.cons rfl (Sub.cons rfl (Sub.cons rfl (Sub.cons rfl (Sub.cons rfl (Sub.cons rfl (Sub.cons rfl Sub.nil)))))))))))
 refine wpIn_seq ?_
 refine wpIn_region_lit ?_
 refine st_v hS rfl rfl (run_fieldAddr fa25_2 hS rfl) fun a hS => st_v hS rfl rfl (run_load_one (i := 1) Tryz.isAgg23 hS rfl rfl rfl) fun a hS => st_v hS rfl rfl (run_assign hS rfl) fun a hS => wl_nil ?_
 refine wpIn_seq ?_
 have hlt0 := fun B hB => hS.lt (b := B) hB
 refine st_mix (k := 59) (by kernel_rfl) (by kernel_rfl) hS rfl rfl ?_
 refine mx_v (fun a W hS hB => run_move hS rfl) <| mx_v (fun a W hS hB => run_move hS rfl) <| mx_v (fun a W hS hB => run_mul (t := (((ix t.X ((cellAt t.X x) + 1))) - x) * (((ix t.Y ((cellAt t.Y y) + 1))) - y)) hS rfl rfl (rfl) (by omega)) <| mx_v (fun a W hS hB => run_move hS rfl) <| mx_v (fun a W hS hB => run_move hS rfl) <| ?_
 obtain ⟨ad4, s4, hA4, hL4, hR4⟩ := sl_rowB ((fun W hC => (Ht W hC).2.2) _ (Below.refl _ _)) (i := ((cellAt t.X x : Nat) : Int)) (j := cellAt t.X x) (by omega) (by omega)
 refine mx_v (fun a W hS hB => run_indexAddr Tryz.underlying23 Tryz.sizeOf22 hS rfl rfl hA4 (by omega) (by omega)) <| mx_v (fun a W hS hB => run_load_cell Tryz.isAgg22 hS rfl (hL4 _ hS.below)) <| mx_v (fun a W hS hB => run_move hS rfl) <| ?_
 obtain ⟨ad5, hA5, hL5⟩ := sl_int hR4 (Below.refl _ _) (i := ((cellAt t.Y y : Nat) : Int)) (j := cellAt t.Y y) (by omega) (by omega)
 refine mx_v (fun a W hS hB => run_indexAddr Tryz.underlying22 Tryz.sizeOf3 hS rfl rfl hA5 (by omega) (by omega)) <| mx_v (fun a W hS hB => run_load_cell Tryz.isAgg3 hS rfl (hL5 _ hS.below)) <| mx_v (fun a W hS hB => run_mul (t := ((((ix t.X ((cellAt t.X x) + 1))) - x) * (((ix t.Y ((cellAt t.Y y) + 1))) - y)) * ((ix (rowOf t.V (cellAt t.X x)) (cellAt t.Y y)))) hS rfl rfl (rfl) (by omega)) <| mx_v (fun a W hS hB => run_move hS rfl) <| mx_v (fun a W hS hB => run_move hS rfl) <| mx_v (fun a W hS hB => run_mul (t := (x - ((ix t.X (cellAt t.X x)))) * (((ix t.Y ((cellAt t.Y y) + 1))) - y)) hS rfl rfl (rfl) (by omega)) <| mx_v (fun a W hS hB => run_move hS rfl) <| mx_v (fun a W hS hB => run_move hS rfl) <| mx_v (fun a W hS hB => run_add (t := (((cellAt t.X x) + 1 : Nat) : Int)) hS rfl rfl (by omega) (by omega) (by omega)) <| ?_
 obtain ⟨ad6, s6, hA6, hL6, hR6⟩ := sl_rowB ((fun W hC => (Ht W hC).2.2) _ (Below.refl _ _)) (i := (((cellAt t.X x) + 1 : Nat) : Int)) (j := (cellAt t.X x) + 1) (by omega) (by omega)
 refine mx_v (fun a W hS hB => run_indexAddr Tryz.underlying23 Tryz.sizeOf22 hS rfl rfl hA6 (by omega) (by omega)) <| mx_v (fun a W hS hB => run_load_cell Tryz.isAgg22 hS rfl (hL6 _ hS.below)) <| mx_v (fun a W hS hB => run_move hS rfl) <| ?_
 obtain ⟨ad7, hA7, hL7⟩ := sl_int hR6 (Below.refl _ _) (i := ((cellAt t.Y y : Nat) : Int)) (j := cellAt t.Y y) (by omega) (by omega)
 refine mx_v (fun a W hS hB => run_indexAddr Tryz.underlying22 Tryz.sizeOf3 hS rfl rfl hA7 (by omega) (by omega)) <| mx_v (fun a W hS hB => run_load_cell Tryz.isAgg3 hS rfl (hL7 _ hS.below)) <| mx_v (fun a W hS hB => run_mul (t := ((x - ((ix t.X (cellAt t.X x)))) * (((ix t.Y ((cellAt t.Y y) + 1))) - y)) * ((ix (rowOf t.V ((cellAt t.X x) + 1)) (cellAt t.Y y)))) hS rfl rfl (rfl) (by omega)) <| mx_v (fun a W hS hB => run_add (t := (((((ix t.X ((cellAt t.X x) + 1))) - x) * (((ix t.Y ((cellAt t.Y y) + 1))) - y)) * ((ix (rowOf t.V (cellAt t.X x)) (cellAt t.Y y)))) + (((x - ((ix t.X (cellAt t.X x)))) * (((ix t.Y ((cellAt t.Y y) + 1))) - y)) * ((ix (rowOf t.V ((cellAt t.X x) + 1)) (cellAt t.Y y))))) hS rfl rfl (rfl) (by omega) (by omega)) <| mx_v (fun a W hS hB => run_move hS rfl) <| mx_v (fun a W hS hB => run_move hS rfl) <| mx_v (fun a W hS hB => run_mul (t := (((ix t.X ((cellAt t.X x) + 1))) - x) * (y - ((ix t.Y (cellAt t.Y y))))) hS rfl rfl (rfl) (by omega)) <| mx_v (fun a W hS hB => run_move hS rfl) <| mx_v (fun a W hS hB => run_move hS rfl) <| ?_
 obtain ⟨ad8, s8, hA8, hL8, hR8⟩ := sl_rowB ((fun W hC => (Ht W hC).2.2) _ (Below.refl _ _)) (i := ((cellAt t.X x : Nat) : Int)) (j := cellAt t.X x) (by omega) (by omega)
 refine mx_v (fun a W hS hB => run_indexAddr Tryz.underlying23 Tryz.sizeOf22 hS rfl rfl hA8 (by omega) (by omega)) <| mx_v (fun a W hS hB => run_load_cell Tryz.isAgg22 hS rfl (hL8 _ hS.below)) <| mx_v (fun a W hS hB => run_move hS rfl) <| mx_v (fun a W hS hB => run_add (t := (((cellAt t.Y y) + 1 : Nat) : Int)) hS rfl rfl (by omega) (by omega) (by omega)) <| ?_
 obtain ⟨ad9, hA9, hL9⟩ := sl_int hR8 (Below.refl _ _) (i := (((cellAt t.Y y) + 1 : Nat) : Int)) (j := (cellAt t.Y y) + 1) (by omega) (by omega)
 refine mx_v (fun a W hS hB => run_indexAddr Tryz.underlying22 Tryz.sizeOf3 hS rfl rfl hA9 (by omega) (by omega)) <| mx_v (fun a W hS hB => run_load_cell Tryz.isAgg3 hS rfl (hL9 _ hS.below)) <| mx_v (fun a W hS hB => run_mul (t := ((((ix t.X ((cellAt t.X x) + 1))) - x) * (y - ((ix t.Y (cellAt t.Y y))))) * ((ix (rowOf t.V (cellAt t.X x)) ((cellAt t.Y y) + 1)))) hS rfl rfl (rfl) (by omega)) <| mx_v (fun a W hS hB => run_add (t := ((((((ix t.X ((cellAt t.X x) + 1))) - x) * (((ix t.Y ((cellAt t.Y y) + 1))) - y)) * ((ix (rowOf t.V (cellAt t.X x)) (cellAt t.Y y)))) + (((x - ((ix t.X (cellAt t.X x)))) * (((ix t.Y ((cellAt t.Y y) + 1))) - y)) * ((ix (rowOf t.V ((cellAt t.X x) + 1)) (cellAt t.Y y))))) + (((((ix t.X ((cellAt t.X x) + 1))) - x) * (y - ((ix t.Y (cellAt t.Y y))))) * ((ix (rowOf t.V (cellAt t.X x)) ((cellAt t.Y y) + 1))))) hS rfl rfl (rfl) (by omega) (by omega)) <| mx_v (fun a W hS hB => run_move hS rfl) <| mx_v (fun a W hS hB => run_move hS rfl) <| mx_v (fun a W hS hB => run_mul (t := (x - ((ix t.X (cellAt t.X x)))) * (y - ((ix t.Y (cellAt t.Y y))))) hS rfl rfl (rfl) (by omega)) <| mx_v (fun a W hS hB => run_move hS rfl) <| mx_v (fun a W hS hB => run_move hS rfl) <| mx_v (fun a W hS hB => run_add (t := (((cellAt t.X x) + 1 : Nat) : Int)) hS rfl rfl (by omega) (by omega) (by omega)) <| ?_
 obtain ⟨ad10, s10, hA10, hL10, hR10⟩ := sl_rowB ((fun W hC => (Ht W hC).2.2) _ (Below.refl _ _)) (i := (((cellAt t.X x) + 1 : Nat) : Int)) (j := (cellAt t.X x) + 1) (by omega) (by omega)
 refine mx_v (fun a W hS hB => run_indexAddr Tryz.underlying23 Tryz.sizeOf22 hS rfl rfl hA10 (by omega) (by omega)) <| mx_v (fun a W hS hB => run_load_cell Tryz.isAgg22 hS rfl (hL10 _ hS.below)) <| mx_v (fun a W hS hB => run_move hS rfl) <| mx_v (fun a W hS hB => run_add (t := (((cellAt t.Y y) + 1 : Nat) : Int)) hS rfl rfl (by omega) (by omega) (by omega)) <| ?_
 obtain ⟨ad11, hA11, hL11⟩ := sl_int hR10 (Below.refl _ _) (i := (((cellAt t.Y y) + 1 : Nat) : Int)) (j := (cellAt t.Y y) + 1) (by omega) (by omega)
 refine mx_v (fun a W hS hB => run_indexAddr Tryz.underlying22 Tryz.sizeOf3 hS rfl rfl hA11 (by omega) (by omega)) <| mx_v (fun a W hS hB => run_load_cell Tryz.isAgg3 hS rfl (hL11 _ hS.below)) <| mx_v (fun a W hS hB => run_mul (t := ((x - ((ix t.X (cellAt t.X x)))) * (y - ((ix t.Y (cellAt t.Y y))))) * ((ix (rowOf t.V ((cellAt t.X x) + 1)) ((cellAt t.Y y) + 1)))) hS rfl rfl (rfl) (by omega)) <| mx_v (fun a W hS hB => run_add (t := (((((((ix t.X ((cellAt t.X x) + 1))) - x) * (((ix t.Y ((cellAt t.Y y) + 1))) - y)) * ((ix (rowOf t.V (cellAt t.X x)) (cellAt t.Y y)))) + (((x - ((ix t.X (cellAt t.X x)))) * (((ix t.Y ((cellAt t.Y y) + 1))) - y)) * ((ix (rowOf t.V ((cellAt t.X x) + 1)) (cellAt t.Y y))))) + (((((ix t.X ((cellAt t.X x) + 1))) - x) * (y - ((ix t.Y (cellAt t.Y y))))) * ((ix (rowOf t.V (cellAt t.X x)) ((cellAt t.Y y) + 1))))) + (((x - ((ix t.X (cellAt t.X x)))) * (y - ((ix t.Y (cellAt t.Y y))))) * ((ix (rowOf t.V ((cellAt t.X x) + 1)) ((cellAt t.Y y) + 1))))) hS rfl rfl (rfl) (by omega) (by omega)) <| mx_v (fun a W hS hB => run_move hS rfl) <| mx_v (fun a W hS hB => run_move hS rfl) <| mx_v (fun a W hS hB => run_add (t := (ix t.X (cellAt t.X x + 1) - ix t.X (cellAt t.X x))) hS rfl rfl (by omega) (by omega) (by omega)) <| mx_v (fun a W hS hB => run_move hS rfl) <| mx_v (fun a W hS hB => run_move hS rfl) <| mx_v (fun a W hS hB => run_add (t := (ix t.Y (cellAt t.Y y + 1) - ix t.Y (cellAt t.Y y))) hS rfl rfl (by omega) (by omega) (by omega)) <| mx_v (fun a W hS hB => run_mul (t := ((ix t.X (cellAt t.X x + 1) - ix t.X (cellAt t.X x))) * ((ix t.Y (cellAt t.Y y + 1) - ix t.Y (cellAt t.Y y)))) hS rfl rfl (rfl) (by omega)) <| mx_v (fun a W hS hB => run_build (pv := [(0, .int .i64 _), (1, .int .i64 _)]) (fun W => bd160_0_1 _ _ W) hS rfl) <| ?_
 refine mx_end fun a W bs us hS hB hL => ?_
 dsimp only [kall, ball, List.cons_append, List.nil_append] at hS
 refine st_store (i := 0) Tryz.sizeOf160 hS rfl rfl rfl rfl rfl rfl rfl rfl rfl fun W a hS => wl_nil ?_
 have hS := hS.sub (κ' := [(0, _), (1, _), (2, _), (3, _), (6, _), (7, _), (8, _), (9, _), (10, _), (11, _), (12, _), (13, _), (112, _)]) (Sub.cons rfl (Sub.cons rfl (Sub.cons rfl (Sub.cons rfl (Sub.cons rfl (Sub.cons rfl (Sub.cons rfl (Sub.cons rfl (Sub.cons rfl (Sub.cons rfl (Sub.cons rfl (Sub.cons rfl (Sub.cons rfl Sub.nil)))))))))))))
 refine wpIn_ret ?_
 repeat (first | refine q_ret ?_ | refine q_block_ret ?_)
 refine hS.done (res1 (fn := Tryz.f234) (r1 := .cell 6 160) rfl (rv_agg (i := 0) Tryz.isAgg160 Tryz.sizeOf160 hS rfl rfl rfl)) ?_
 rfl
set_option maxHeartbeats 2000000 in
set_option maxRecDepth 100000 in
theorem spans_valid  (p : Span) {w : World}   : Ret Tryz.prog 231 [.agg (spanC p).toArray] w (fun v _ => v = .bool p.ok) := by
 refine ret_start (n := 13) Tryz.func231 rfl rfl rfl (fun a hS => ?_)
 refine wpIn_seq ?_
 refine wpIn_region_lit ?_
 refine st_box_agg hS rfl rfl rfl fun W a b0 hS => st_v hS rfl rfl (run_assign hS rfl) fun a hS => wl_nil ?_
 refine wpIn_seq ?_
 refine wpIn_region_lit ?_
 refine st_v hS rfl rfl (run_fieldAddr fa31_0 hS rfl) fun a hS => st_v hS rfl rfl (run_load_one (i := 0) Tryz.isAgg3 hS rfl rfl rfl) fun a hS => st_v hS rfl rfl (run_fieldAddr fa31_1 hS rfl) fun a hS => st_v hS rfl rfl (run_load_one (i := 0) Tryz.isAgg3 hS rfl rfl rfl) fun a hS => st_call (spans_within) Tryz.call209 hS rfl rfl rfl fun v W a hR hB hlt hS => ?_
 subst hR
 refine st_v hS rfl rfl (run_move hS rfl) fun a hS => ?_
 refine st_split (d := 8) hS rfl (fun hc1 hS => ?_) (fun hc1 hS => ?_)
 ·
  try simp only [ty] at hc1
  refine st_v hS (hS.wanted rfl rfl rfl) rfl (run_fieldAddr fa31_1 hS rfl) fun a hS => st_v hS (hS.wanted rfl rfl rfl) rfl (run_load_one (i := 0) Tryz.isAgg3 hS rfl rfl rfl) fun a hS => st_v hS (hS.wanted rfl rfl rfl) rfl (run_bin hS rfl rfl rfl) fun a hS => st_v hS rfl rfl (run_pick_t hS rfl rfl) fun a hS => st_v hS rfl rfl (run_assign hS rfl) fun a hS => wl_nil ?_
  refine wpIn_ret ?_
  repeat (first | refine q_ret ?_ | refine q_block_ret ?_)
  refine hS.done (res1 (fn := Tryz.f231) (r1 := .tmp 2) rfl (rv_tmp hS rfl)) ?_
  refine vb ?_; simp only [within, Bool.and_eq_true, Bool.and_eq_false_iff, decide_eq_true_eq, decide_eq_false_iff_not, Bool.false_eq_true, false_iff] at *; rw [Span.ok_iff]; omega
 ·
  try simp only [ty] at hc1
  refine st_skip hS (hS.unwanted rfl rfl rfl rfl) rfl fun a hS => st_skip hS (hS.unwanted rfl rfl rfl rfl) rfl fun a hS => st_skip hS (hS.unwanted rfl rfl rfl rfl) rfl fun a hS => st_v hS rfl rfl (run_pick_f hS rfl rfl) fun a hS => st_v hS rfl rfl (run_assign hS rfl) fun a hS => wl_nil ?_
  refine wpIn_ret ?_
  repeat (first | refine q_ret ?_ | refine q_block_ret ?_)
  refine hS.done (res1 (fn := Tryz.f231) (r1 := .tmp 2) rfl (rv_tmp hS rfl)) ?_
  refine vb ?_; simp only [within, Bool.and_eq_true, Bool.and_eq_false_iff, decide_eq_true_eq, decide_eq_false_iff_not, Bool.false_eq_true, false_iff] at *; rw [Span.ok_iff]; omega
set_option maxHeartbeats 2000000 in
set_option maxRecDepth 100000 in
theorem spans_axis  (sl : SV) (l : List Int) {w : World} {Fl : Nat → Prop} (hl : Sl kInt Fl w sl l)  : Ret Tryz.prog 228 [.slice sl.a l.length sl.c] w (fun v _ => v = .bool (axisOk l)) := by
 refine ret_start (n := 35) Tryz.func228 rfl rfl rfl (fun a hS => ?_)
 have Hl : ∀ W, Below w.heap.size w W → Sl kInt Fl W sl l := fun W hb => hl.at_ hb
 have hml := hl.len
 refine wpIn_seq ?_
 refine wpIn_region_lit ?_
 refine st_v hS rfl rfl (run_assign hS rfl) fun a hS => wl_nil ?_
 refine wpIn_seq ?_
 refine wpIn_seq ?_
 refine wpIn_region_lit ?_
 refine st_v hS rfl rfl (run_move hS rfl) fun a hS => st_v hS rfl rfl (run_len_slice Tryz.underlying22 hS rfl) fun a hS => st_call (spans_within) Tryz.call209 hS rfl rfl rfl fun v W a hR hB hlt hS => ?_
 subst hR
 refine st_v hS rfl rfl (run_not hS rfl) fun a hS => wl_nil ?_
 refine st_cond hS rfl (fun hc1 => ?_) (fun hc1 => ?_)
 ·
  try simp only [ty] at hc1
  refine wpIn_seq ?_
  refine wpIn_region_lit ?_
  refine st_v hS rfl rfl (run_assign hS rfl) fun a hS => wl_nil ?_
  refine wpIn_ret ?_
  repeat (first | refine q_ret ?_ | refine q_block_ret ?_)
  refine hS.done (res1 (fn := Tryz.f228) (r1 := .tmp 2) rfl (rv_tmp hS rfl)) ?_
  rw [axisOk_len (by simpa using hc1)]
 ·
  try simp only [ty] at hc1
  refine wpIn_skip ?_
  refine wpIn_seq ?_
  refine wpIn_seq ?_
  refine wpIn_region_lit ?_
  refine st_v hS rfl rfl (run_move hS rfl) fun a hS => st_v hS rfl rfl (run_len_slice Tryz.underlying22 hS rfl) fun a hS => st_v hS rfl rfl (run_move hS rfl) fun a hS => wl_nil ?_
  refine wpIn_block ?_
  refine st_loop2 (α := Nat) (fun x => [(11, .int .i64 (((x : Nat) : Int)))]) [(0, _), (9, _), (10, _)] (fun l _ => l) (fun x => x ≤ l.length ∧ ∀ j, j < x → axisGood l j = true) (fun x => l.length - x) (0) hS (Sub.cons rfl (Sub.cons rfl (Sub.cons rfl (Sub.cons rfl Sub.nil)))) rfl (⟨Nat.zero_le _, fun j hj => absurd hj (Nat.not_lt_zero j)⟩) (fun x W a hφ hS => ?_)
  dsimp only [setB, List.cons_append, List.nil_append, List.take] at hS
  obtain ⟨hx, hg⟩ := hφ
  refine wpIn_seq ?_
  refine wpIn_region_lit ?_
  refine st_v hS rfl rfl (run_bin hS rfl rfl rfl) fun a hS => wl_nil ?_
  refine wpIn_seq ?_
  refine st_cond hS rfl (fun hc2 => ?_) (fun hc2 => ?_)
  ·
   try simp only [ty] at hc2
   refine wpIn_skip ?_
   refine wpIn_seq ?_
   refine wpIn_block ?_
   refine wpIn_seq ?_
   refine wpIn_region_lit ?_
   refine st_v hS rfl rfl (run_move hS rfl) fun a hS => ?_
   obtain ⟨ad0, hA0, hL0⟩ := sl_int Hl (Below.refl _ _) (i := ((x : Nat) : Int)) (j := x) (by omega) (by omega)
   refine st_v hS rfl rfl (run_indexAddr Tryz.underlying22 Tryz.sizeOf3 hS rfl rfl hA0 (by omega) (by omega)) fun a hS => st_v hS rfl rfl (run_load_cell Tryz.isAgg3 hS rfl (hL0 _ hS.below)) fun a hS => st_v hS rfl rfl (run_assign hS rfl) fun a hS => st_v hS rfl rfl (run_assign hS rfl) fun a hS => wl_nil ?_
   refine wpIn_seq ?_
   refine wpIn_region_lit ?_
   refine st_v hS rfl rfl (run_move hS rfl) fun a hS => st_call (spans_within) Tryz.call209 hS rfl rfl rfl fun v W a hR hB hlt hS => ?_
   subst hR
   refine st_v hS rfl rfl (run_not hS rfl) fun a hS => st_v hS rfl rfl (run_move hS rfl) fun a hS => ?_
   refine st_split (d := 19) hS rfl (fun hc3 hS => ?_) (fun hc3 hS => ?_)
   ·
    try simp only [ty] at hc3
    refine st_skip hS (hS.unwanted rfl rfl rfl rfl) rfl fun a hS => st_skip hS (hS.unwanted rfl rfl rfl rfl) rfl fun a hS => st_skip hS (hS.unwanted rfl rfl rfl rfl) rfl fun a hS => st_skip hS (hS.unwantedU rfl rfl rfl) rfl fun a hS => st_skip hS (hS.unwantedU rfl rfl rfl) rfl fun a hS => st_skip hS (hS.unwantedU rfl rfl rfl) rfl fun a hS => st_skip hS (hS.unwantedU rfl rfl rfl) rfl fun a hS => st_skip hS (hS.unwantedU rfl rfl rfl) rfl fun a hS => st_skip hS (hS.unwantedU rfl rfl rfl) rfl fun a hS => st_skip hS (hS.unwantedU rfl rfl rfl) rfl fun a hS => st_skip hS (hS.unwantedU rfl rfl rfl) rfl fun a hS => st_skip hS (hS.unwantedU rfl rfl rfl) rfl fun a hS => st_skip hS (hS.unwanted rfl rfl rfl rfl) rfl fun a hS => st_v hS rfl rfl (run_pick_t hS rfl rfl) fun a hS => wl_nil ?_
    refine st_cond_t hS rfl ?_
    refine wpIn_seq ?_
    refine wpIn_region_lit ?_
    refine st_v hS rfl rfl (run_assign hS rfl) fun a hS => wl_nil ?_
    refine wpIn_ret ?_
    repeat (first | refine q_ret ?_ | refine q_block_ret ?_)
    refine hS.done (res1 (fn := Tryz.f228) (r1 := .tmp 2) rfl (rv_tmp hS rfl)) ?_
    rw [axisOk_bad (i := x) (by omega) (by simp [axisGood, hc3])]
   ·
    try simp only [ty] at hc3
    refine st_v hS (hS.wanted rfl rfl rfl) rfl (run_move hS rfl) fun a hS => st_v hS (hS.wanted rfl rfl rfl) rfl (run_bin hS rfl rfl rfl) fun a hS => st_v hS (hS.wanted rfl rfl rfl) rfl (run_move hS rfl) fun a hS => ?_
    refine st_split (d := 22) hS rfl (fun hc4 hS => ?_) (fun hc4 hS => ?_)
    ·
     try simp only [ty] at hc4
     have hb1 : -1000000 ≤ ix l x ∧ ix l x ≤ 1000000 := by simpa [within] using hc3
     have hb2 := hg (x - 1) (by omega)
     simp only [axisGood, within, Bool.and_eq_true, decide_eq_true_eq] at hb2
     refine st_v hS (hS.wanted rfl rfl rfl) rfl (run_move hS rfl) fun a hS => st_v hS (hS.wanted rfl rfl rfl) rfl (run_move hS rfl) fun a hS => st_v hS (hS.wanted rfl rfl rfl) rfl (run_move hS rfl) fun a hS => st_v hS (hS.wanted rfl rfl rfl) rfl (run_sub (t := ((x - 1 : Nat) : Int)) hS rfl rfl (by omega) (by omega) (by omega)) fun a hS => ?_
     obtain ⟨ad1, hA1, hL1⟩ := sl_int Hl (Below.refl _ _) (i := ((x - 1 : Nat) : Int)) (j := x - 1) (by omega) (by omega)
     refine st_v hS (hS.wanted rfl rfl rfl) rfl (run_indexAddr Tryz.underlying22 Tryz.sizeOf3 hS rfl rfl hA1 (by omega) (by omega)) fun a hS => st_v hS (hS.wanted rfl rfl rfl) rfl (run_load_cell Tryz.isAgg3 hS rfl (hL1 _ hS.below)) fun a hS => st_v hS (hS.wanted rfl rfl rfl) rfl (run_sub (t := ((ix l (x))) - ((ix l (x - 1)))) hS rfl rfl (rfl) (by omega) (by omega)) fun a hS => st_call (spans_within) Tryz.call209 hS (hS.wanted rfl rfl rfl) rfl rfl fun v W a hR hB hlt hS => ?_
     subst hR
     refine st_v hS (hS.wanted rfl rfl rfl) rfl (run_not hS rfl) fun a hS => st_v hS (hS.wanted rfl rfl rfl) rfl (run_pick_t hS rfl rfl) fun a hS => st_v hS rfl rfl (run_pick_f hS rfl rfl) fun a hS => wl_nil ?_
     refine st_cond hS rfl (fun hc5 => ?_) (fun hc5 => ?_)
     ·
      try simp only [ty] at hc5
      refine wpIn_seq ?_
      refine wpIn_region_lit ?_
      refine st_v hS rfl rfl (run_assign hS rfl) fun a hS => wl_nil ?_
      refine wpIn_ret ?_
      repeat (first | refine q_ret ?_ | refine q_block_ret ?_)
      refine hS.done (res1 (fn := Tryz.f228) (r1 := .tmp 2) rfl (rv_tmp hS rfl)) ?_
      rw [axisOk_bad (i := x) (by omega) (by simp [axisGood, hc5]; omega)]
     ·
      try simp only [ty] at hc5
      refine wpIn_skip ?_
      refine wpIn_region_lit ?_
      refine st_v hS rfl rfl (run_add (t := ((x + 1 : Nat) : Int)) hS rfl rfl (by omega) (by omega) (by omega)) fun a hS => st_v hS rfl rfl (run_move hS rfl) fun a hS => wl_nil ?_
      refine ⟨x + 1, ⟨⟨by omega, fun j hj => ?_⟩, by omega⟩, (hS.sub (Sub.cons rfl (Sub.cons rfl (Sub.cons rfl (Sub.cons rfl Sub.nil)))))⟩
      by_cases e : j = x
      · subst e; simp [axisGood, hc3, hc5]
      · exact hg j (by omega)
    ·
     try simp only [ty] at hc4
     refine st_skip hS (hS.unwanted rfl rfl rfl rfl) rfl fun a hS => st_skip hS (hS.unwanted rfl rfl rfl rfl) rfl fun a hS => st_skip hS (hS.unwanted rfl rfl rfl rfl) rfl fun a hS => st_skip hS (hS.unwanted rfl rfl rfl rfl) rfl fun a hS => st_skip hS (hS.unwanted rfl rfl rfl rfl) rfl fun a hS => st_skip hS (hS.unwanted rfl rfl rfl rfl) rfl fun a hS => st_skip hS (hS.unwanted rfl rfl rfl rfl) rfl fun a hS => st_skip hS (hS.unwanted rfl rfl rfl rfl) rfl fun a hS => st_skip hS (hS.unwanted rfl rfl rfl rfl) rfl fun a hS => st_v hS (hS.wanted rfl rfl rfl) rfl (run_pick_f hS rfl rfl) fun a hS => st_v hS rfl rfl (run_pick_f hS rfl rfl) fun a hS => wl_nil ?_
     refine st_cond_f hS rfl ?_
     refine wpIn_skip ?_
     refine wpIn_region_lit ?_
     refine st_v hS rfl rfl (run_add (t := ((x + 1 : Nat) : Int)) hS rfl rfl (by omega) (by omega) (by omega)) fun a hS => st_v hS rfl rfl (run_move hS rfl) fun a hS => wl_nil ?_
     refine ⟨x + 1, ⟨⟨by omega, fun j hj => ?_⟩, by omega⟩, (hS.sub (Sub.cons rfl (Sub.cons rfl (Sub.cons rfl (Sub.cons rfl Sub.nil)))))⟩
     by_cases e : j = x
     · subst e; simp only [axisGood, hc3, Bool.true_and, Bool.or_eq_true, beq_iff_eq]; exact .inl (by omega)
     · exact hg j (by omega)
  ·
   try simp only [ty] at hc2
   refine wpIn_exit ?_
   refine wpIn_seq ?_
   refine wpIn_region_lit ?_
   refine st_v hS rfl rfl (run_assign hS rfl) fun a hS => wl_nil ?_
   refine wpIn_ret ?_
   repeat (first | refine q_ret ?_ | refine q_block_ret ?_)
   refine hS.done (res1 (fn := Tryz.f228) (r1 := .tmp 2) rfl (rv_tmp hS rfl)) ?_
   rw [axisOk_good (by simpa using hc1) (fun j hj => hg j (by omega))]
set_option maxHeartbeats 2000000 in
set_option maxRecDepth 100000 in
theorem idx_row (sxs : SV) (xs : List (List Int)) (f : FuncId) (cap : List Value) (p : List Int → Bool) {F : Nat → Prop} {w : World} (hxs : Sl kRow F w sxs xs) (hf : Enters Tryz.prog f) (hp : ∀ W, Below w.heap.size w W → ∀ (s' : SV) (row : List Int), row ∈ xs → Sl kInt F W s' row → Ret Tryz.prog f (.slice s'.a row.length s'.c :: cap) W (fun v _ => v = .bool (p row))) : Ret Tryz.prog 249 [.slice sxs.a xs.length sxs.c, .func (.func f) #[] cap.toArray] w (fun v _ => v = .int .i64 (idxOf p xs)) := by
 refine ret_start (n := 19) Tryz.func249 rfl rfl rfl (fun a hS => ?_)
 have Hxs : ∀ W, Below w.heap.size w W → Sl kRow F W sxs xs := fun W hb => hxs.at_ hb
 have hmxs := hxs.len
 refine wpIn_seq ?_
 refine wpIn_region_lit ?_
 refine st_v hS rfl rfl (run_assign hS rfl) fun a hS => wl_nil ?_
 refine wpIn_seq ?_
 refine wpIn_seq ?_
 refine wpIn_region_lit ?_
 refine st_v hS rfl rfl (run_move hS rfl) fun a hS => st_v hS rfl rfl (run_len_slice Tryz.underlying23 hS rfl) fun a hS => st_v hS rfl rfl (run_move hS rfl) fun a hS => wl_nil ?_
 refine wpIn_block ?_
 refine st_loop2 (α := Nat) (fun x => [(8, .int .i64 (((x : Nat) : Int)))]) [(0, _), (1, _), (7, _)] (fun l _ => l) (fun x => x ≤ xs.length ∧ ∀ j, j < x → p (xs.getD j []) = false) (fun x => xs.length - x) (0) hS (Sub.cons rfl (Sub.cons rfl (Sub.cons rfl (Sub.cons rfl Sub.nil)))) rfl (⟨Nat.zero_le _, fun j hj => absurd hj (Nat.not_lt_zero j)⟩) (fun x W a hφ hS => ?_)
 dsimp only [setB, List.cons_append, List.nil_append, List.take] at hS
 obtain ⟨hx, hg⟩ := hφ
 refine wpIn_seq ?_
 refine wpIn_region_lit ?_
 refine st_v hS rfl rfl (run_bin hS rfl rfl rfl) fun a hS => wl_nil ?_
 refine wpIn_seq ?_
 refine st_cond hS rfl (fun hc1 => ?_) (fun hc1 => ?_)
 ·
  try simp only [ty] at hc1
  refine wpIn_skip ?_
  refine wpIn_seq ?_
  refine wpIn_block ?_
  refine wpIn_seq ?_
  refine wpIn_region_lit ?_
  refine st_v hS rfl rfl (run_move hS rfl) fun a hS => st_v hS rfl rfl (run_assign hS rfl) fun a hS => wl_nil ?_
  refine wpIn_seq ?_
  refine wpIn_region_lit ?_
  refine st_v hS rfl rfl (run_move hS rfl) fun a hS => st_v hS rfl rfl (run_move hS rfl) fun a hS => st_v hS rfl rfl (run_move hS rfl) fun a hS => ?_
  obtain ⟨ad0, s0, hA0, hL0, hR0⟩ := sl_rowB (Hxs _ (Below.refl _ _)) (i := ((x : Nat) : Int)) (j := x) (by omega) (by omega)
  refine st_v hS rfl rfl (run_indexAddr Tryz.underlying23 Tryz.sizeOf22 hS rfl rfl hA0 (by omega) (by omega)) fun a hS => st_v hS rfl rfl (run_load_cell Tryz.isAgg22 hS rfl (hL0 _ hS.below)) fun a hS => st_callv hS rfl rfl (hf) (hp _ hS.below s0 (rowOf xs x) (getD_mem (by omega)) (hR0 _ hS.below)) rfl rfl fun v W a hR hB hlt hS => ?_
  subst hR
  refine wl_nil ?_
  refine st_cond hS rfl (fun hc2 => ?_) (fun hc2 => ?_)
  ·
   try simp only [ty] at hc2
   refine wpIn_seq ?_
   refine wpIn_region_lit ?_
   refine st_v hS rfl rfl (run_move hS rfl) fun a hS => st_v hS rfl rfl (run_assign hS rfl) fun a hS => wl_nil ?_
   refine wpIn_ret ?_
   repeat (first | refine q_ret ?_ | refine q_block_ret ?_)
   refine hS.done (res1 (fn := Tryz.f249) (r1 := .tmp 4) rfl (rv_tmp hS rfl)) ?_
   rw [idxOf_some (d := []) (i := x) (by omega) hg (by assumption)]
  ·
   try simp only [ty] at hc2
   refine wpIn_skip ?_
   refine wpIn_region_lit ?_
   refine st_v hS rfl rfl (run_add (t := ((x + 1 : Nat) : Int)) hS rfl rfl (by omega) (by omega) (by omega)) fun a hS => st_v hS rfl rfl (run_move hS rfl) fun a hS => wl_nil ?_
   refine ⟨x + 1, ⟨⟨by omega, fun j hj => ?_⟩, by omega⟩, (hS.sub (Sub.cons rfl (Sub.cons rfl (Sub.cons rfl (Sub.cons rfl Sub.nil)))))⟩
   by_cases e : j = x
   · subst e; assumption
   · exact hg j (by omega)
 ·
  try simp only [ty] at hc1
  refine wpIn_exit ?_
  refine wpIn_seq ?_
  refine wpIn_region_lit ?_
  refine st_v hS rfl rfl (run_assign hS rfl) fun a hS => wl_nil ?_
  refine wpIn_ret ?_
  repeat (first | refine q_ret ?_ | refine q_block_ret ?_)
  refine hS.done (res1 (fn := Tryz.f249) (r1 := .tmp 4) rfl (rv_tmp hS rfl)) ?_
  rw [idxOf_none (d := []) (fun j hj => hg j (by omega))]
set_option maxHeartbeats 2000000 in
set_option maxRecDepth 100000 in
theorem has_row (sxs : SV) (xs : List (List Int)) (f : FuncId) (cap : List Value) (p : List Int → Bool) {F : Nat → Prop} {w : World} (hxs : Sl kRow F w sxs xs) (hf : Enters Tryz.prog f) (hp : ∀ W, Below w.heap.size w W → ∀ (s' : SV) (row : List Int), row ∈ xs → Sl kInt F W s' row → Ret Tryz.prog f (.slice s'.a row.length s'.c :: cap) W (fun v _ => v = .bool (p row))) : Ret Tryz.prog 229 [.slice sxs.a xs.length sxs.c, .func (.func f) #[] cap.toArray] w (fun v _ => v = .bool (xs.any p)) := by
 refine ret_start (n := 9) Tryz.func229 rfl rfl rfl (fun a hS => ?_)
 have Hxs : ∀ W, Below w.heap.size w W → Sl kRow F W sxs xs := fun W hb => hxs.at_ hb
 have hmxs := hxs.len
 refine wpIn_seq ?_
 refine wpIn_region_lit ?_
 refine st_v hS rfl rfl (run_assign hS rfl) fun a hS => wl_nil ?_
 refine wpIn_seq ?_
 refine wpIn_region_lit ?_
 refine st_v hS rfl rfl (run_move hS rfl) fun a hS => st_v hS rfl rfl (run_move hS rfl) fun a hS => st_call (idx_row sxs xs f cap p (Hxs _ hS.below) hf (fun W' hb => hp W' (hS.below.trans (hb.mono hS.below.size)))) Tryz.call249 hS rfl rfl rfl fun v W a hR hB hlt hS => ?_
 subst hR
 refine st_v hS rfl rfl (run_bin hS rfl rfl rfl) fun a hS => st_v hS rfl rfl (run_assign hS rfl) fun a hS => wl_nil ?_
 refine wpIn_ret ?_
 repeat (first | refine q_ret ?_ | refine q_block_ret ?_)
 refine hS.done (res1 (fn := Tryz.f229) (r1 := .tmp 4) rfl (rv_tmp hS rfl)) ?_
 rw [idxOf_ge]
set_option maxHeartbeats 2000000 in
set_option maxRecDepth 100000 in
theorem idx_int (sxs : SV) (xs : List Int) (f : FuncId) (cap : List Value) (p : Int → Bool) {F : Nat → Prop} {w : World} (hxs : Sl kInt F w sxs xs) (hf : Enters Tryz.prog f) (hp : ∀ W, Below w.heap.size w W → ∀ x ∈ xs, Ret Tryz.prog f (.int .i64 x :: cap) W (fun v _ => v = .bool (p x))) : Ret Tryz.prog 248 [.slice sxs.a xs.length sxs.c, .func (.func f) #[] cap.toArray] w (fun v _ => v = .int .i64 (idxOf p xs)) := by
 refine ret_start (n := 19) Tryz.func248 rfl rfl rfl (fun a hS => ?_)
 have Hxs : ∀ W, Below w.heap.size w W → Sl kInt F W sxs xs := fun W hb => hxs.at_ hb
 have hmxs := hxs.len
 refine wpIn_seq ?_
 refine wpIn_region_lit ?_
 refine st_v hS rfl rfl (run_assign hS rfl) fun a hS => wl_nil ?_
 refine wpIn_seq ?_
 refine wpIn_seq ?_
 refine wpIn_region_lit ?_
 refine st_v hS rfl rfl (run_move hS rfl) fun a hS => st_v hS rfl rfl (run_len_slice Tryz.underlying22 hS rfl) fun a hS => st_v hS rfl rfl (run_move hS rfl) fun a hS => wl_nil ?_
 refine wpIn_block ?_
 refine st_loop2 (α := Nat) (fun x => [(8, .int .i64 (((x : Nat) : Int)))]) [(0, _), (1, _), (7, _)] (fun l _ => l) (fun x => x ≤ xs.length ∧ ∀ j, j < x → p (xs.getD j 0) = false) (fun x => xs.length - x) (0) hS (Sub.cons rfl (Sub.cons rfl (Sub.cons rfl (Sub.cons rfl Sub.nil)))) rfl (⟨Nat.zero_le _, fun j hj => absurd hj (Nat.not_lt_zero j)⟩) (fun x W a hφ hS => ?_)
 dsimp only [setB, List.cons_append, List.nil_append, List.take] at hS
 obtain ⟨hx, hg⟩ := hφ
 refine wpIn_seq ?_
 refine wpIn_region_lit ?_
 refine st_v hS rfl rfl (run_bin hS rfl rfl rfl) fun a hS => wl_nil ?_
 refine wpIn_seq ?_
 refine st_cond hS rfl (fun hc1 => ?_) (fun hc1 => ?_)
 ·
  try simp only [ty] at hc1
  refine wpIn_skip ?_
  refine wpIn_seq ?_
  refine wpIn_block ?_
  refine wpIn_seq ?_
  refine wpIn_region_lit ?_
  refine st_v hS rfl rfl (run_move hS rfl) fun a hS => st_v hS rfl rfl (run_assign hS rfl) fun a hS => wl_nil ?_
  refine wpIn_seq ?_
  refine wpIn_region_lit ?_
  refine st_v hS rfl rfl (run_move hS rfl) fun a hS => st_v hS rfl rfl (run_move hS rfl) fun a hS => st_v hS rfl rfl (run_move hS rfl) fun a hS => ?_
  obtain ⟨ad0, hA0, hL0⟩ := sl_int Hxs (Below.refl _ _) (i := ((x : Nat) : Int)) (j := x) (by omega) (by omega)
  refine st_v hS rfl rfl (run_indexAddr Tryz.underlying22 Tryz.sizeOf3 hS rfl rfl hA0 (by omega) (by omega)) fun a hS => st_v hS rfl rfl (run_load_cell Tryz.isAgg3 hS rfl (hL0 _ hS.below)) fun a hS => st_callv hS rfl rfl (hf) (hp _ hS.below (ix xs x) (getD_mem (by omega))) rfl rfl fun v W a hR hB hlt hS => ?_
  subst hR
  refine wl_nil ?_
  refine st_cond hS rfl (fun hc2 => ?_) (fun hc2 => ?_)
  ·
   try simp only [ty] at hc2
   refine wpIn_seq ?_
   refine wpIn_region_lit ?_
   refine st_v hS rfl rfl (run_move hS rfl) fun a hS => st_v hS rfl rfl (run_assign hS rfl) fun a hS => wl_nil ?_
   refine wpIn_ret ?_
   repeat (first | refine q_ret ?_ | refine q_block_ret ?_)
   refine hS.done (res1 (fn := Tryz.f248) (r1 := .tmp 4) rfl (rv_tmp hS rfl)) ?_
   rw [idxOf_some (d := 0) (i := x) (by omega) hg (by assumption)]
  ·
   try simp only [ty] at hc2
   refine wpIn_skip ?_
   refine wpIn_region_lit ?_
   refine st_v hS rfl rfl (run_add (t := ((x + 1 : Nat) : Int)) hS rfl rfl (by omega) (by omega) (by omega)) fun a hS => st_v hS rfl rfl (run_move hS rfl) fun a hS => wl_nil ?_
   refine ⟨x + 1, ⟨⟨by omega, fun j hj => ?_⟩, by omega⟩, (hS.sub (Sub.cons rfl (Sub.cons rfl (Sub.cons rfl (Sub.cons rfl Sub.nil)))))⟩
   by_cases e : j = x
   · subst e; assumption
   · exact hg j (by omega)
 ·
  try simp only [ty] at hc1
  refine wpIn_exit ?_
  refine wpIn_seq ?_
  refine wpIn_region_lit ?_
  refine st_v hS rfl rfl (run_assign hS rfl) fun a hS => wl_nil ?_
  refine wpIn_ret ?_
  repeat (first | refine q_ret ?_ | refine q_block_ret ?_)
  refine hS.done (res1 (fn := Tryz.f248) (r1 := .tmp 4) rfl (rv_tmp hS rfl)) ?_
  rw [idxOf_none (d := 0) (fun j hj => hg j (by omega))]
set_option maxHeartbeats 2000000 in
set_option maxRecDepth 100000 in
theorem has_int (sxs : SV) (xs : List Int) (f : FuncId) (cap : List Value) (p : Int → Bool) {F : Nat → Prop} {w : World} (hxs : Sl kInt F w sxs xs) (hf : Enters Tryz.prog f) (hp : ∀ W, Below w.heap.size w W → ∀ x ∈ xs, Ret Tryz.prog f (.int .i64 x :: cap) W (fun v _ => v = .bool (p x))) : Ret Tryz.prog 227 [.slice sxs.a xs.length sxs.c, .func (.func f) #[] cap.toArray] w (fun v _ => v = .bool (xs.any p)) := by
 refine ret_start (n := 9) Tryz.func227 rfl rfl rfl (fun a hS => ?_)
 have Hxs : ∀ W, Below w.heap.size w W → Sl kInt F W sxs xs := fun W hb => hxs.at_ hb
 have hmxs := hxs.len
 refine wpIn_seq ?_
 refine wpIn_region_lit ?_
 refine st_v hS rfl rfl (run_assign hS rfl) fun a hS => wl_nil ?_
 refine wpIn_seq ?_
 refine wpIn_region_lit ?_
 refine st_v hS rfl rfl (run_move hS rfl) fun a hS => st_v hS rfl rfl (run_move hS rfl) fun a hS => st_call (idx_int sxs xs f cap p (Hxs _ hS.below) hf (fun W' hb => hp W' (hS.below.trans (hb.mono hS.below.size)))) Tryz.call248 hS rfl rfl rfl fun v W a hR hB hlt hS => ?_
 subst hR
 refine st_v hS rfl rfl (run_bin hS rfl rfl rfl) fun a hS => st_v hS rfl rfl (run_assign hS rfl) fun a hS => wl_nil ?_
 refine wpIn_ret ?_
 repeat (first | refine q_ret ?_ | refine q_block_ret ?_)
 refine hS.done (res1 (fn := Tryz.f227) (r1 := .tmp 4) rfl (rv_tmp hS rfl)) ?_
 rw [idxOf_ge]
set_option maxHeartbeats 2000000 in
set_option maxRecDepth 100000 in
theorem idx_span (sxs : SV) (xs : List Span) (f : FuncId) (cap : List Value) (p : Span → Bool) {F : Nat → Prop} {w : World} (hxs : Sl kSpan F w sxs xs) (hf : Enters Tryz.prog f) (hp : ∀ W, Below w.heap.size w W → ∀ x ∈ xs, Ret Tryz.prog f (.agg (spanC x).toArray :: cap) W (fun v _ => v = .bool (p x))) : Ret Tryz.prog 207 [.slice sxs.a xs.length sxs.c, .func (.func f) #[] cap.toArray] w (fun v _ => v = .int .i64 (idxOf p xs)) := by
 refine ret_start (n := 19) Tryz.func207 rfl rfl rfl (fun a hS => ?_)
 have Hxs : ∀ W, Below w.heap.size w W → Sl kSpan F W sxs xs := fun W hb => hxs.at_ hb
 have hmxs := hxs.len
 refine wpIn_seq ?_
 refine wpIn_region_lit ?_
 refine st_v hS rfl rfl (run_assign hS rfl) fun a hS => wl_nil ?_
 refine wpIn_seq ?_
 refine wpIn_seq ?_
 refine wpIn_region_lit ?_
 refine st_v hS rfl rfl (run_move hS rfl) fun a hS => st_v hS rfl rfl (run_len_slice Tryz.underlying61 hS rfl) fun a hS => st_v hS rfl rfl (run_move hS rfl) fun a hS => wl_nil ?_
 refine wpIn_block ?_
 refine st_loop2 (α := Nat) (fun x => [(8, .int .i64 (((x : Nat) : Int)))]) [(0, _), (1, _), (7, _)] (fun l _ => l) (fun x => x ≤ xs.length ∧ ∀ j, j < x → p (xs.getD j ⟨0, 0⟩) = false) (fun x => xs.length - x) (0) hS (Sub.cons rfl (Sub.cons rfl (Sub.cons rfl (Sub.cons rfl Sub.nil)))) rfl (⟨Nat.zero_le _, fun j hj => absurd hj (Nat.not_lt_zero j)⟩) (fun x W a hφ hS => ?_)
 dsimp only [setB, List.cons_append, List.nil_append, List.take] at hS
 obtain ⟨hx, hg⟩ := hφ
 refine wpIn_seq ?_
 refine wpIn_region_lit ?_
 refine st_v hS rfl rfl (run_bin hS rfl rfl rfl) fun a hS => wl_nil ?_
 refine wpIn_seq ?_
 refine st_cond hS rfl (fun hc1 => ?_) (fun hc1 => ?_)
 ·
  try simp only [ty] at hc1
  refine wpIn_skip ?_
  refine wpIn_seq ?_
  refine wpIn_block ?_
  refine wpIn_seq ?_
  refine wpIn_region_lit ?_
  refine st_v hS rfl rfl (run_move hS rfl) fun a hS => st_v hS rfl rfl (run_assign hS rfl) fun a hS => wl_nil ?_
  refine wpIn_seq ?_
  refine wpIn_region_lit ?_
  refine st_v hS rfl rfl (run_move hS rfl) fun a hS => st_v hS rfl rfl (run_move hS rfl) fun a hS => st_v hS rfl rfl (run_move hS rfl) fun a hS => ?_
  obtain ⟨ad0, hA0, hL0⟩ := sl_span Hxs (Below.refl _ _) (i := ((x : Nat) : Int)) (j := x) (by omega) (by omega)
  refine st_v hS rfl rfl (run_indexAddr Tryz.underlying61 Tryz.sizeOf31 hS rfl rfl hA0 (by omega) (by omega)) fun a hS => st_v hS rfl rfl (run_load_ext Tryz.isAgg31 Tryz.sizeOf31 hS rfl rfl (hL0 _ hS.below)) fun a hS => st_callv hS rfl rfl (hf) (hp _ hS.below (spanAt xs x) (getD_mem (by omega))) rfl rfl fun v W a hR hB hlt hS => ?_
  subst hR
  refine wl_nil ?_
  refine st_cond hS rfl (fun hc2 => ?_) (fun hc2 => ?_)
  ·
   try simp only [ty] at hc2
   refine wpIn_seq ?_
   refine wpIn_region_lit ?_
   refine st_v hS rfl rfl (run_move hS rfl) fun a hS => st_v hS rfl rfl (run_assign hS rfl) fun a hS => wl_nil ?_
   refine wpIn_ret ?_
   repeat (first | refine q_ret ?_ | refine q_block_ret ?_)
   refine hS.done (res1 (fn := Tryz.f207) (r1 := .tmp 4) rfl (rv_tmp hS rfl)) ?_
   rw [idxOf_some (d := ⟨0, 0⟩) (i := x) (by omega) hg (by assumption)]
  ·
   try simp only [ty] at hc2
   refine wpIn_skip ?_
   refine wpIn_region_lit ?_
   refine st_v hS rfl rfl (run_add (t := ((x + 1 : Nat) : Int)) hS rfl rfl (by omega) (by omega) (by omega)) fun a hS => st_v hS rfl rfl (run_move hS rfl) fun a hS => wl_nil ?_
   refine ⟨x + 1, ⟨⟨by omega, fun j hj => ?_⟩, by omega⟩, (hS.sub (Sub.cons rfl (Sub.cons rfl (Sub.cons rfl (Sub.cons rfl Sub.nil)))))⟩
   by_cases e : j = x
   · subst e; assumption
   · exact hg j (by omega)
 ·
  try simp only [ty] at hc1
  refine wpIn_exit ?_
  refine wpIn_seq ?_
  refine wpIn_region_lit ?_
  refine st_v hS rfl rfl (run_assign hS rfl) fun a hS => wl_nil ?_
  refine wpIn_ret ?_
  repeat (first | refine q_ret ?_ | refine q_block_ret ?_)
  refine hS.done (res1 (fn := Tryz.f207) (r1 := .tmp 4) rfl (rv_tmp hS rfl)) ?_
  rw [idxOf_none (d := ⟨0, 0⟩) (fun j hj => hg j (by omega))]
set_option maxHeartbeats 2000000 in
set_option maxRecDepth 100000 in
theorem has_span (sxs : SV) (xs : List Span) (f : FuncId) (cap : List Value) (p : Span → Bool) {F : Nat → Prop} {w : World} (hxs : Sl kSpan F w sxs xs) (hf : Enters Tryz.prog f) (hp : ∀ W, Below w.heap.size w W → ∀ x ∈ xs, Ret Tryz.prog f (.agg (spanC x).toArray :: cap) W (fun v _ => v = .bool (p x))) : Ret Tryz.prog 155 [.slice sxs.a xs.length sxs.c, .func (.func f) #[] cap.toArray] w (fun v _ => v = .bool (xs.any p)) := by
 refine ret_start (n := 9) Tryz.func155 rfl rfl rfl (fun a hS => ?_)
 have Hxs : ∀ W, Below w.heap.size w W → Sl kSpan F W sxs xs := fun W hb => hxs.at_ hb
 have hmxs := hxs.len
 refine wpIn_seq ?_
 refine wpIn_region_lit ?_
 refine st_v hS rfl rfl (run_assign hS rfl) fun a hS => wl_nil ?_
 refine wpIn_seq ?_
 refine wpIn_region_lit ?_
 refine st_v hS rfl rfl (run_move hS rfl) fun a hS => st_v hS rfl rfl (run_move hS rfl) fun a hS => st_call (idx_span sxs xs f cap p (Hxs _ hS.below) hf (fun W' hb => hp W' (hS.below.trans (hb.mono hS.below.size)))) Tryz.call207 hS rfl rfl rfl fun v W a hR hB hlt hS => ?_
 subst hR
 refine st_v hS rfl rfl (run_bin hS rfl rfl rfl) fun a hS => st_v hS rfl rfl (run_assign hS rfl) fun a hS => wl_nil ?_
 refine wpIn_ret ?_
 repeat (first | refine q_ret ?_ | refine q_block_ret ?_)
 refine hS.done (res1 (fn := Tryz.f155) (r1 := .tmp 4) rfl (rv_tmp hS rfl)) ?_
 rw [idxOf_ge]
set_option maxHeartbeats 2000000 in
set_option maxRecDepth 100000 in
theorem spans_ct1  {x : Int} {w : World}   : Ret Tryz.prog 225 [.int .i64 x] w (fun v _ => v = .bool (!(within x (-1000000) 1000000))) := by
 refine ret_start (n := 6) Tryz.func225 rfl rfl rfl (fun a hS => ?_)
 refine wpIn_seq ?_
 refine wpIn_region_lit ?_
 refine st_v hS rfl rfl (run_assign hS rfl) fun a hS => wl_nil ?_
 refine wpIn_seq ?_
 refine wpIn_region_lit ?_
 refine st_v hS rfl rfl (run_move hS rfl) fun a hS => st_call (spans_within) Tryz.call209 hS rfl rfl rfl fun v W a hR hB hlt hS => ?_
 subst hR
 refine st_v hS rfl rfl (run_not hS rfl) fun a hS => st_v hS rfl rfl (run_assign hS rfl) fun a hS => wl_nil ?_
 refine wpIn_ret ?_
 repeat (first | refine q_ret ?_ | refine q_block_ret ?_)
 refine hS.done (res1 (fn := Tryz.f225) (r1 := .tmp 2) rfl (rv_tmp hS rfl)) ?_
 rfl
set_option maxHeartbeats 2000000 in
set_option maxRecDepth 100000 in
theorem spans_ct2 {Vt : TV} {t : Tab} {Ft : Nat → Prop} (srow : SV) (row : List Int) (pc1 : Addr) (pc2 : Addr) {w : World} {Frow : Nat → Prop} (hrow : Sl kInt Frow w srow row) (hc1 : CellsAt w pc1 (tabC Vt t)) (hc2 : w.cell? pc2 = some (.func (.func 225) #[] #[])) (ht : TabR Ft w Vt t) : Ret Tryz.prog 226 [.slice srow.a row.length srow.c, .pointer (some pc1), .pointer (some pc2)] w (fun v _ => v = .bool (!(rowGood t row))) := by
 refine ret_start (n := 16) Tryz.func226 rfl rfl rfl (fun a hS => ?_)
 have Hrow : ∀ W, Below w.heap.size w W → Sl kInt Frow W srow row := fun W hb => hrow.at_ hb
 have hmrow := hrow.len
 have Hc1 : ∀ W, Below w.heap.size w W → CellsAt W pc1 (tabC Vt t) := fun W hb => hc1.at_ hb
 have Hc2 : ∀ W, Below w.heap.size w W → W.cell? pc2 = some (.func (.func 225) #[] #[]) := fun W hb => cell_at hc2 hb
 have Htt : ∀ W, Below w.heap.size w W → TabR Ft W Vt t := fun W hb => ht.move (keep_of hb)
 refine wpIn_seq ?_
 refine wpIn_region_lit ?_
 refine st_v hS rfl rfl (run_assign hS rfl) fun a hS => wl_nil ?_
 refine wpIn_seq ?_
 refine wpIn_region_lit ?_
 refine st_v hS rfl rfl (run_move hS rfl) fun a hS => st_v hS rfl rfl (run_len_slice Tryz.underlying22 hS rfl) fun a hS => st_v hS rfl rfl (run_fieldAddrE fe25_1 hS rfl) fun a hS => st_v hS rfl rfl (run_load_cell Tryz.isAgg22 hS rfl (Hc1 _ hS.below 1 _ rfl)) fun a hS => st_v hS rfl rfl (run_len_slice Tryz.underlying22 hS rfl) fun a hS => st_v hS rfl rfl (run_bin hS rfl rfl rfl) fun a hS => st_v hS rfl rfl (run_move hS rfl) fun a hS => ?_
 refine st_split (d := 11) hS rfl (fun hc1 hS => ?_) (fun hc1 hS => ?_)
 ·
  try simp only [ty] at hc1
  refine st_skip hS (hS.unwanted rfl rfl rfl rfl) rfl fun a hS => st_skip hS (hS.unwanted rfl rfl rfl rfl) rfl fun a hS => st_skip hS (hS.unwanted rfl rfl rfl rfl) rfl fun a hS => st_v hS rfl rfl (run_pick_t hS rfl rfl) fun a hS => st_v hS rfl rfl (run_assign hS rfl) fun a hS => wl_nil ?_
  refine wpIn_ret ?_
  repeat (first | refine q_ret ?_ | refine q_block_ret ?_)
  refine hS.done (res1 (fn := Tryz.f226) (r1 := .tmp 4) rfl (rv_tmp hS rfl)) ?_
  refine vb ?_; simp only [rowGood, Bool.not_eq_true', Bool.and_eq_false_iff, decide_eq_false_iff_not, List.all_eq_not_any_not, Bool.not_eq_false', Bool.not_eq_true]; first | (simp only [hc1]; simp; omega) | (simp; omega)
 ·
  try simp only [ty] at hc1
  refine st_v hS (hS.wanted rfl rfl rfl) rfl (run_move hS rfl) fun a hS => st_v hS (hS.wanted rfl rfl rfl) rfl (run_load_cell Tryz.isAgg187 hS rfl (Hc2 _ hS.below)) fun a hS => st_call (has_int srow row 225 [] (fun x => !(within x (-1000000) 1000000)) (Hrow _ hS.below) Tryz.call225 (fun W' hb x hx => spans_ct1)) Tryz.call227 hS (hS.wanted rfl rfl rfl) rfl rfl fun v W a hR hB hlt hS => ?_
  subst hR
  refine st_v hS rfl rfl (run_pick_f hS rfl rfl) fun a hS => st_v hS rfl rfl (run_assign hS rfl) fun a hS => wl_nil ?_
  refine wpIn_ret ?_
  repeat (first | refine q_ret ?_ | refine q_block_ret ?_)
  refine hS.done (res1 (fn := Tryz.f226) (r1 := .tmp 4) rfl (rv_tmp hS rfl)) ?_
  refine vb ?_; simp only [rowGood, Bool.not_eq_true', Bool.and_eq_false_iff, decide_eq_false_iff_not, List.all_eq_not_any_not, Bool.not_eq_false', Bool.not_eq_true]; first | (simp only [hc1]; simp; omega) | (simp; omega)
set_option maxHeartbeats 2000000 in
set_option maxRecDepth 100000 in
theorem spans_CheckTable  (Vt : TV) (t : Tab) {w : World} {Ft : Nat → Prop} (ht : TabR Ft w Vt t)  : Ret Tryz.prog 186 [.agg (tabC Vt t).toArray] w (fun v _ => v = .int .i64 (if tabOk t then 0 else 11)) := by
 refine ret_start (n := 31) Tryz.func186 rfl rfl rfl (fun a hS => ?_)
 have Ht : ∀ W, Below w.heap.size w W → TabR Ft W Vt t := fun W hb => ht.move (keep_of hb)
 have hmtx := ht.1.len
 have hmty := ht.2.1.len
 have hmtv := ht.2.2.len
 refine wpIn_seq ?_
 refine wpIn_region_lit ?_
 refine st_box_agg hS rfl rfl rfl fun W a b0 hS => st_v hS rfl rfl (run_assign hS rfl) fun a hS => wl_nil ?_
 refine wpIn_seq ?_
 refine wpIn_region_lit ?_
 refine st_alloc_one Tryz.zeroValue187 rfl hS rfl rfl fun W a b1 hS => st_store (i := 0) Tryz.sizeOf187 hS rfl rfl rfl rfl rfl rfl rfl rfl rfl fun W a hS => wl_nil ?_
 refine wpIn_seq ?_
 refine wpIn_region_lit ?_
 refine st_v hS rfl rfl (run_makeFunc hS rfl rfl) fun a hS => st_v hS rfl rfl (run_assign hS rfl) fun a hS => wl_nil ?_
 refine wpIn_seq ?_
 refine wpIn_seq ?_
 refine wpIn_region_lit ?_
 refine st_v hS rfl rfl (run_fieldAddr fa25_0 hS rfl) fun a hS => st_v hS rfl rfl (run_load_one (i := 1) Tryz.isAgg22 hS rfl rfl rfl) fun a hS => st_call (spans_axis Vt.x t.X ((fun W hC => (Ht W hC).1) _ hS.below)) Tryz.call228 hS rfl rfl rfl fun v W a hR hB hlt hS => ?_
 subst hR
 refine st_v hS rfl rfl (run_not hS rfl) fun a hS => st_v hS rfl rfl (run_move hS rfl) fun a hS => ?_
 refine st_split (d := 10) hS rfl (fun hc1 hS => ?_) (fun hc1 hS => ?_)
 ·
  try simp only [ty] at hc1
  refine st_skip hS (hS.unwanted rfl rfl rfl rfl) rfl fun a hS => st_skip hS (hS.unwanted rfl rfl rfl rfl) rfl fun a hS => st_skip hS (hS.unwanted rfl rfl rfl rfl) rfl fun a hS => st_skip hS (hS.unwanted rfl rfl rfl rfl) rfl fun a hS => st_v hS rfl rfl (run_pick_t hS rfl rfl) fun a hS => st_v hS rfl rfl (run_move hS rfl) fun a hS => st_skip hS (hS.unwanted rfl rfl rfl rfl) rfl fun a hS => st_skip hS (hS.unwanted rfl rfl rfl rfl) rfl fun a hS => st_skip hS (hS.unwanted rfl rfl rfl rfl) rfl fun a hS => st_skip hS (hS.unwanted rfl rfl rfl rfl) rfl fun a hS => st_skip hS (hS.unwanted rfl rfl rfl rfl) rfl fun a hS => st_skip hS (hS.unwanted rfl rfl rfl rfl) rfl fun a hS => st_skip hS (hS.unwanted rfl rfl rfl rfl) rfl fun a hS => st_v hS rfl rfl (run_pick_t hS rfl rfl) fun a hS => st_v hS rfl rfl (run_move hS rfl) fun a hS => st_skip hS (hS.unwanted rfl rfl rfl rfl) rfl fun a hS => st_skip hS (hS.unwanted rfl rfl rfl rfl) rfl fun a hS => st_skip hS (hS.unwanted rfl rfl rfl rfl) rfl fun a hS => st_skip hS (hS.unwanted rfl rfl rfl rfl) rfl fun a hS => st_v hS rfl rfl (run_pick_t hS rfl rfl) fun a hS => wl_nil ?_
  have hS := hS.sub (κ' := [(0, _), (1, _), (2, _), (3, _), (4, _), (30, _)]) (Sub.cons rfl (Sub.cons rfl (Sub.cons rfl (Sub.cons rfl (Sub.cons rfl (Sub.cons rfl Sub.nil))))))
  refine st_cond_t hS rfl ?_
  refine wpIn_seq ?_
  refine wpIn_region_lit ?_
  refine st_v hS rfl rfl (run_assign hS rfl) fun a hS => wl_nil ?_
  refine wpIn_ret ?_
  repeat (first | refine q_ret ?_ | refine q_block_ret ?_)
  refine hS.done (res1 (fn := Tryz.f186) (r1 := .tmp 2) rfl (rv_tmp hS rfl)) ?_
  simp only [tabOk_eq, List.all_eq_not_any_not, hc1]; simp; try omega
 ·
  try simp only [ty] at hc1
  refine st_v hS (hS.wanted rfl rfl rfl) rfl (run_fieldAddr fa25_1 hS rfl) fun a hS => st_v hS (hS.wanted rfl rfl rfl) rfl (run_load_one (i := 1) Tryz.isAgg22 hS rfl rfl rfl) fun a hS => st_call (spans_axis Vt.y t.Y ((fun W hC => (Ht W hC).2.1) _ hS.below)) Tryz.call228 hS (hS.wanted rfl rfl rfl) rfl rfl fun v W a hR hB hlt hS => ?_
  subst hR
  refine st_v hS (hS.wanted rfl rfl rfl) rfl (run_not hS rfl) fun a hS => st_v hS rfl rfl (run_pick_f hS rfl rfl) fun a hS => st_v hS rfl rfl (run_move hS rfl) fun a hS => ?_
  refine st_split (d := 16) hS rfl (fun hc2 hS => ?_) (fun hc2 hS => ?_)
  ·
   try simp only [ty] at hc2
   refine st_skip hS (hS.unwanted rfl rfl rfl rfl) rfl fun a hS => st_skip hS (hS.unwanted rfl rfl rfl rfl) rfl fun a hS => st_skip hS (hS.unwanted rfl rfl rfl rfl) rfl fun a hS => st_skip hS (hS.unwanted rfl rfl rfl rfl) rfl fun a hS => st_skip hS (hS.unwanted rfl rfl rfl rfl) rfl fun a hS => st_skip hS (hS.unwanted rfl rfl rfl rfl) rfl fun a hS => st_skip hS (hS.unwanted rfl rfl rfl rfl) rfl fun a hS => st_v hS rfl rfl (run_pick_t hS rfl rfl) fun a hS => st_v hS rfl rfl (run_move hS rfl) fun a hS => st_skip hS (hS.unwanted rfl rfl rfl rfl) rfl fun a hS => st_skip hS (hS.unwanted rfl rfl rfl rfl) rfl fun a hS => st_skip hS (hS.unwanted rfl rfl rfl rfl) rfl fun a hS => st_skip hS (hS.unwanted rfl rfl rfl rfl) rfl fun a hS => st_v hS rfl rfl (run_pick_t hS rfl rfl) fun a hS => wl_nil ?_
   have hS := hS.sub (κ' := [(0, _), (1, _), (2, _), (3, _), (4, _), (30, _)]) (Sub.cons rfl (Sub.cons rfl (Sub.cons rfl (Sub.cons rfl (Sub.cons rfl (Sub.cons rfl Sub.nil))))))
   refine st_cond_t hS rfl ?_
   refine wpIn_seq ?_
   refine wpIn_region_lit ?_
   refine st_v hS rfl rfl (run_assign hS rfl) fun a hS => wl_nil ?_
   refine wpIn_ret ?_
   repeat (first | refine q_ret ?_ | refine q_block_ret ?_)
   refine hS.done (res1 (fn := Tryz.f186) (r1 := .tmp 2) rfl (rv_tmp hS rfl)) ?_
   simp only [tabOk_eq, List.all_eq_not_any_not, hc1, hc2]; simp; try omega
  ·
   try simp only [ty] at hc2
   refine st_v hS (hS.wanted rfl rfl rfl) rfl (run_fieldAddr fa25_2 hS rfl) fun a hS => st_v hS (hS.wanted rfl rfl rfl) rfl (run_load_one (i := 1) Tryz.isAgg23 hS rfl rfl rfl) fun a hS => st_v hS (hS.wanted rfl rfl rfl) rfl (run_len_slice Tryz.underlying23 hS rfl) fun a hS => st_v hS (hS.wanted rfl rfl rfl) rfl (run_fieldAddr fa25_0 hS rfl) fun a hS => st_v hS (hS.wanted rfl rfl rfl) rfl (run_load_one (i := 1) Tryz.isAgg22 hS rfl rfl rfl) fun a hS => st_v hS (hS.wanted rfl rfl rfl) rfl (run_len_slice Tryz.underlying22 hS rfl) fun a hS => st_v hS (hS.wanted rfl rfl rfl) rfl (run_bin hS rfl rfl rfl) fun a hS => st_v hS rfl rfl (run_pick_f hS rfl rfl) fun a hS => st_v hS rfl rfl (run_move hS rfl) fun a hS => ?_
   refine st_split (d := 25) hS rfl (fun hc3 hS => ?_) (fun hc3 hS => ?_)
   ·
    try simp only [ty] at hc3
    refine st_skip hS (hS.unwanted rfl rfl rfl rfl) rfl fun a hS => st_skip hS (hS.unwanted rfl rfl rfl rfl) rfl fun a hS => st_skip hS (hS.unwanted rfl rfl rfl rfl) rfl fun a hS => st_skip hS (hS.unwanted rfl rfl rfl rfl) rfl fun a hS => st_v hS rfl rfl (run_pick_t hS rfl rfl) fun a hS => wl_nil ?_
    have hS := hS.sub (κ' := [(0, _), (1, _), (2, _), (3, _), (4, _), (30, _)]) (Sub.cons rfl (Sub.cons rfl (Sub.cons rfl (Sub.cons rfl (Sub.cons rfl (Sub.cons rfl Sub.nil))))))
    refine st_cond_t hS rfl ?_
    refine wpIn_seq ?_
    refine wpIn_region_lit ?_
    refine st_v hS rfl rfl (run_assign hS rfl) fun a hS => wl_nil ?_
    refine wpIn_ret ?_
    repeat (first | refine q_ret ?_ | refine q_block_ret ?_)
    refine hS.done (res1 (fn := Tryz.f186) (r1 := .tmp 2) rfl (rv_tmp hS rfl)) ?_
    simp only [tabOk_eq, List.all_eq_not_any_not, hc1, hc2, hc3]; simp; try omega
   ·
    try simp only [ty] at hc3
    refine st_v hS (hS.wanted rfl rfl rfl) rfl (run_fieldAddr fa25_2 hS rfl) fun a hS => st_v hS (hS.wanted rfl rfl rfl) rfl (run_load_one (i := 1) Tryz.isAgg23 hS rfl rfl rfl) fun a hS => st_v hS (hS.wanted rfl rfl rfl) rfl (run_move hS rfl) fun a hS => st_call (has_row Vt.v t.V 226 [.pointer (some ⟨b0, 0, none⟩), .pointer (some ⟨b1, 0, none⟩)] (fun row => !(rowGood t row)) (Ht _ hS.below).2.2 Tryz.call226 (fun W' hb s' row hm hrow => spans_ct2 s' row _ _ hrow (hS.cells (i := 1) rfl _ hb) (hS.cell0 (i := 0) rfl _ hb) (ht.move (keep_of (hS.below.trans (hb.mono hS.below.size)))))) Tryz.call229 hS (hS.wanted rfl rfl rfl) rfl rfl fun v W a hR hB hlt hS => ?_
    subst hR
    refine st_v hS rfl rfl (run_pick_f hS rfl rfl) fun a hS => wl_nil ?_
    have hS := hS.sub (κ' := [(0, _), (1, _), (2, _), (3, _), (4, _), (30, _)]) (Sub.cons rfl (Sub.cons rfl (Sub.cons rfl (Sub.cons rfl (Sub.cons rfl (Sub.cons rfl Sub.nil))))))
    refine st_cond hS rfl (fun hc4 => ?_) (fun hc4 => ?_)
    ·
     try simp only [ty] at hc4
     refine wpIn_seq ?_
     refine wpIn_region_lit ?_
     refine st_v hS rfl rfl (run_assign hS rfl) fun a hS => wl_nil ?_
     refine wpIn_ret ?_
     repeat (first | refine q_ret ?_ | refine q_block_ret ?_)
     refine hS.done (res1 (fn := Tryz.f186) (r1 := .tmp 2) rfl (rv_tmp hS rfl)) ?_
     simp only [tabOk_eq, List.all_eq_not_any_not, hc1, hc2, hc3, hc4]; simp; try omega
    ·
     try simp only [ty] at hc4
     refine wpIn_skip ?_
     refine wpIn_seq ?_
     refine wpIn_region_lit ?_
     refine st_v hS rfl rfl (run_assign hS rfl) fun a hS => wl_nil ?_
     refine wpIn_ret ?_
     repeat (first | refine q_ret ?_ | refine q_block_ret ?_)
     refine hS.done (res1 (fn := Tryz.f186) (r1 := .tmp 2) rfl (rv_tmp hS rfl)) ?_
     simp only [tabOk_eq, List.all_eq_not_any_not, hc1, hc2, hc3, hc4]; simp; try omega
set_option maxHeartbeats 2000000 in
set_option maxRecDepth 100000 in
theorem spans_sp1  (p : Span) {w : World}   : Ret Tryz.prog 230 [.agg (spanC p).toArray] w (fun v _ => v = .bool (!(p.ok))) := by
 refine ret_start (n := 6) Tryz.func230 rfl rfl rfl (fun a hS => ?_)
 refine wpIn_seq ?_
 refine wpIn_region_lit ?_
 refine st_box_agg hS rfl rfl rfl fun W a b0 hS => st_v hS rfl rfl (run_assign hS rfl) fun a hS => wl_nil ?_
 refine wpIn_seq ?_
 refine wpIn_region_lit ?_
 refine st_v hS rfl rfl (run_load_all (i := 0) Tryz.isAgg31 Tryz.sizeOf31 hS rfl rfl rfl) fun a hS => st_call (spans_valid p) Tryz.call231 hS rfl rfl rfl fun v W a hR hB hlt hS => ?_
 subst hR
 refine st_v hS rfl rfl (run_not hS rfl) fun a hS => st_v hS rfl rfl (run_assign hS rfl) fun a hS => wl_nil ?_
 refine wpIn_ret ?_
 repeat (first | refine q_ret ?_ | refine q_block_ret ?_)
 refine hS.done (res1 (fn := Tryz.f230) (r1 := .tmp 2) rfl (rv_tmp hS rfl)) ?_
 rfl
set_option maxHeartbeats 2000000 in
set_option maxRecDepth 100000 in
theorem spans_spanned  (sxs : SV) (xs : List Span) {w : World} {Fxs : Nat → Prop} (hxs : Sl kSpan Fxs w sxs xs)  : Ret Tryz.prog 187 [.slice sxs.a xs.length sxs.c] w (fun v _ => v = .int .i64 (if xs.all Span.ok then 0 else 10)) := by
 refine ret_start (n := 5) Tryz.func187 rfl rfl rfl (fun a hS => ?_)
 have Hxs : ∀ W, Below w.heap.size w W → Sl kSpan Fxs W sxs xs := fun W hb => hxs.at_ hb
 have hmxs := hxs.len
 refine wpIn_seq ?_
 refine wpIn_region_lit ?_
 refine st_v hS rfl rfl (run_assign hS rfl) fun a hS => wl_nil ?_
 refine wpIn_seq ?_
 refine wpIn_seq ?_
 refine wpIn_region_lit ?_
 refine st_v hS rfl rfl (run_move hS rfl) fun a hS => st_call (has_span sxs xs 230 [] (fun p => !(p.ok)) (Hxs _ hS.below) Tryz.call230 (fun W' hb x hx => spans_sp1 _)) Tryz.call155 hS rfl rfl rfl fun v W a hR hB hlt hS => ?_
 subst hR
 refine wl_nil ?_
 refine st_cond hS rfl (fun hc1 => ?_) (fun hc1 => ?_)
 ·
  try simp only [ty] at hc1
  refine wpIn_seq ?_
  refine wpIn_region_lit ?_
  refine st_v hS rfl rfl (run_assign hS rfl) fun a hS => wl_nil ?_
  refine wpIn_ret ?_
  repeat (first | refine q_ret ?_ | refine q_block_ret ?_)
  refine hS.done (res1 (fn := Tryz.f187) (r1 := .tmp 2) rfl (rv_tmp hS rfl)) ?_
  rw [List.all_eq_not_any_not]; simp [hc1]
 ·
  try simp only [ty] at hc1
  refine wpIn_skip ?_
  refine wpIn_seq ?_
  refine wpIn_region_lit ?_
  refine st_v hS rfl rfl (run_assign hS rfl) fun a hS => wl_nil ?_
  refine wpIn_ret ?_
  repeat (first | refine q_ret ?_ | refine q_block_ret ?_)
  refine hS.done (res1 (fn := Tryz.f187) (r1 := .tmp 2) rfl (rv_tmp hS rfl)) ?_
  rw [List.all_eq_not_any_not]; simp [hc1]
set_option maxHeartbeats 2000000 in
set_option maxRecDepth 100000 in
theorem spans_Check  (sxs : SV) (xs : List Span) {w : World} {Fxs : Nat → Prop} (hxs : Sl kSpan Fxs w sxs xs)  : Ret Tryz.prog 159 [.slice sxs.a xs.length sxs.c] w (fun v _ => v = .int .i64 (if within xs.length 1 3 && xs.all Span.ok then 0 else 10)) := by
 refine ret_start (n := 9) Tryz.func159 rfl rfl rfl (fun a hS => ?_)
 have Hxs : ∀ W, Below w.heap.size w W → Sl kSpan Fxs W sxs xs := fun W hb => hxs.at_ hb
 have hmxs := hxs.len
 refine wpIn_seq ?_
 refine wpIn_region_lit ?_
 refine st_v hS rfl rfl (run_assign hS rfl) fun a hS => wl_nil ?_
 refine wpIn_seq ?_
 refine wpIn_seq ?_
 refine wpIn_region_lit ?_
 refine st_v hS rfl rfl (run_move hS rfl) fun a hS => st_v hS rfl rfl (run_len_slice Tryz.underlying62 hS rfl) fun a hS => st_call (spans_within) Tryz.call209 hS rfl rfl rfl fun v W a hR hB hlt hS => ?_
 subst hR
 refine st_v hS rfl rfl (run_not hS rfl) fun a hS => wl_nil ?_
 refine st_cond hS rfl (fun hc1 => ?_) (fun hc1 => ?_)
 ·
  try simp only [ty] at hc1
  refine wpIn_seq ?_
  refine wpIn_region_lit ?_
  refine st_v hS rfl rfl (run_assign hS rfl) fun a hS => wl_nil ?_
  refine wpIn_ret ?_
  repeat (first | refine q_ret ?_ | refine q_block_ret ?_)
  refine hS.done (res1 (fn := Tryz.f159) (r1 := .tmp 2) rfl (rv_tmp hS rfl)) ?_
  simp [hc1]
 ·
  try simp only [ty] at hc1
  refine wpIn_skip ?_
  refine wpIn_seq ?_
  refine wpIn_region_lit ?_
  refine st_v hS rfl rfl (run_move hS rfl) fun a hS => st_call (spans_spanned sxs xs (Hxs _ hS.below)) Tryz.call187 hS rfl rfl rfl fun v W a hR hB hlt hS => ?_
  subst hR
  refine st_v hS rfl rfl (run_assign hS rfl) fun a hS => wl_nil ?_
  refine wpIn_ret ?_
  repeat (first | refine q_ret ?_ | refine q_block_ret ?_)
  refine hS.done (res1 (fn := Tryz.f159) (r1 := .tmp 2) rfl (rv_tmp hS rfl)) ?_
  simp [hc1]
set_option maxHeartbeats 2000000 in
set_option maxRecDepth 100000 in
theorem spans_checkPoints  (Vt : TV) (t : Tab) (p : Span) (q : Span) {w : World} {Ft : Nat → Prop} (ht : TabR Ft w Vt t)  : Ret Tryz.prog 116 [.agg (tabC Vt t).toArray, .agg (spanC p).toArray, .agg (spanC q).toArray] w (fun v _ => v = .int .i64 (if tabOk t then (if p.ok && q.ok then (if liesT t p q then 0 else 1) else 10) else 11)) := by
 refine ret_start (n := 33) Tryz.func116 rfl rfl rfl (fun a hS => ?_)
 have Ht : ∀ W, Below w.heap.size w W → TabR Ft W Vt t := fun W hb => ht.move (keep_of hb)
 have hmtx := ht.1.len
 have hmty := ht.2.1.len
 have hmtv := ht.2.2.len
 refine wpIn_seq ?_
 refine wpIn_region_lit ?_
 refine st_box_agg hS rfl rfl rfl fun W a b0 hS => st_box_agg hS rfl rfl rfl fun W a b1 hS => st_box_agg hS rfl rfl rfl fun W a b2 hS => st_v hS rfl rfl (run_assign hS rfl) fun a hS => wl_nil ?_
 refine wpIn_seq ?_
 refine wpIn_seq ?_
 refine wpIn_region_lit ?_
 refine st_v hS rfl rfl (run_load_all (i := 2) Tryz.isAgg25 Tryz.sizeOf25 hS rfl rfl rfl) fun a hS => st_call (spans_CheckTable Vt t (Ht _ hS.below)) Tryz.call186 hS rfl rfl rfl fun v W a hR hB hlt hS => ?_
 subst hR
 refine st_v hS rfl rfl (run_assign hS rfl) fun a hS => wl_nil ?_
 refine wpIn_seq ?_
 refine wpIn_region_lit ?_
 refine st_v hS rfl rfl (run_move hS rfl) fun a hS => st_v hS rfl rfl (run_bin hS rfl rfl rfl) fun a hS => wl_nil ?_
 refine st_cond hS rfl (fun hc1 => ?_) (fun hc1 => ?_)
 ·
  try simp only [ty] at hc1
  refine wpIn_seq ?_
  refine wpIn_region_lit ?_
  refine st_v hS rfl rfl (run_move hS rfl) fun a hS => st_v hS rfl rfl (run_assign hS rfl) fun a hS => wl_nil ?_
  refine wpIn_ret ?_
  repeat (first | refine q_ret ?_ | refine q_block_ret ?_)
  refine hS.done (res1 (fn := Tryz.f116) (r1 := .tmp 6) rfl (rv_tmp hS rfl)) ?_
  split at hc1 <;> simp_all
 ·
  try simp only [ty] at hc1
  refine wpIn_skip ?_
  refine wpIn_seq ?_
  refine wpIn_seq ?_
  refine wpIn_region_lit ?_
  refine st_v hS rfl rfl (run_load_all (i := 1) Tryz.isAgg31 Tryz.sizeOf31 hS rfl rfl rfl) fun a hS => st_v hS rfl rfl (run_load_all (i := 0) Tryz.isAgg31 Tryz.sizeOf31 hS rfl rfl rfl) fun a hS => st_buildSlice (pv := [(0, .agg #[.int .i64 _, .int .i64 _]), (1, .agg #[.int .i64 _, .int .i64 _])]) (fun W => bs61_2_0_1 _ _ _ _ W) hS rfl rfl rfl fun W a b3 hS => st_call (spans_spanned (⟨some ⟨b3, 0, none⟩, 2⟩ : SV) [p, q] (own_sl_of (dk := kSpan) (enc := spanC) (xs := [p, q]) (fun _ _ _ => rfl) hS (i := 0) rfl (Nat.le_of_ble_eq_true rfl))) Tryz.call187 hS rfl rfl rfl fun v W a hR hB hlt hS => ?_
  subst hR
  refine st_v hS rfl rfl (run_assign hS rfl) fun a hS => wl_nil ?_
  refine wpIn_seq ?_
  refine wpIn_region_lit ?_
  refine st_v hS rfl rfl (run_move hS rfl) fun a hS => st_v hS rfl rfl (run_bin hS rfl rfl rfl) fun a hS => wl_nil ?_
  refine st_cond hS rfl (fun hc2 => ?_) (fun hc2 => ?_)
  ·
   try simp only [ty] at hc2
   refine wpIn_seq ?_
   refine wpIn_region_lit ?_
   refine st_v hS rfl rfl (run_move hS rfl) fun a hS => st_v hS rfl rfl (run_assign hS rfl) fun a hS => wl_nil ?_
   refine wpIn_ret ?_
   repeat (first | refine q_ret ?_ | refine q_block_ret ?_)
   refine hS.done (res1 (fn := Tryz.f116) (r1 := .tmp 6) rfl (rv_tmp hS rfl)) ?_
   have hok : tabOk t = true := by
     cases h : tabOk t <;> simp [h] at hc1 ⊢
   rw [if_pos hok]; simp at hc2 ⊢; cases h1 : p.ok <;> cases h2 : q.ok <;> simp [h1, h2] at hc2 ⊢
  ·
   try simp only [ty] at hc2
   have hok : tabOk t = true := by
     cases h : tabOk t <;> simp [h] at hc1 ⊢
   obtain ⟨hX, hY, _, _⟩ := tab_axes hok
   have := hX.two; have := hY.two
   refine wpIn_skip ?_
   refine wpIn_seq ?_
   refine wpIn_seq ?_
   refine wpIn_region_lit ?_
   refine st_v hS rfl rfl (run_fieldAddr fa25_0 hS rfl) fun a hS => st_v hS rfl rfl (run_load_one (i := 3) Tryz.isAgg22 hS rfl rfl rfl) fun a hS => st_v hS rfl rfl (run_load_all (i := 2) Tryz.isAgg31 Tryz.sizeOf31 hS rfl rfl rfl) fun a hS => st_call (spans_lies Vt.x t.X p ((fun W hC => (Ht W hC).1) _ hS.below) (by omega)) Tryz.call188 hS rfl rfl rfl fun v W a hR hB hlt hS => ?_
   subst hR
   refine st_v hS rfl rfl (run_not hS rfl) fun a hS => st_v hS rfl rfl (run_move hS rfl) fun a hS => ?_
   refine st_split (d := 26) hS rfl (fun hc3 hS => ?_) (fun hc3 hS => ?_)
   ·
    try simp only [ty] at hc3
    refine st_skip hS (hS.unwanted rfl rfl rfl rfl) rfl fun a hS => st_skip hS (hS.unwanted rfl rfl rfl rfl) rfl fun a hS => st_skip hS (hS.unwanted rfl rfl rfl rfl) rfl fun a hS => st_skip hS (hS.unwanted rfl rfl rfl rfl) rfl fun a hS => st_skip hS (hS.unwanted rfl rfl rfl rfl) rfl fun a hS => st_v hS rfl rfl (run_pick_t hS rfl rfl) fun a hS => wl_nil ?_
    refine st_cond_t hS rfl ?_
    refine wpIn_seq ?_
    refine wpIn_region_lit ?_
    refine st_v hS rfl rfl (run_assign hS rfl) fun a hS => wl_nil ?_
    refine wpIn_ret ?_
    repeat (first | refine q_ret ?_ | refine q_block_ret ?_)
    refine hS.done (res1 (fn := Tryz.f116) (r1 := .tmp 6) rfl (rv_tmp hS rfl)) ?_
    have hpq : (p.ok && q.ok) = true := by
      simp at hc2; cases h1 : p.ok <;> cases h2 : q.ok <;> simp [h1, h2] at hc2 ⊢
    rw [if_pos hok, if_pos hpq]; simp [liesT, hc1, hc2, hc3]
   ·
    try simp only [ty] at hc3
    refine st_v hS (hS.wanted rfl rfl rfl) rfl (run_fieldAddr fa25_1 hS rfl) fun a hS => st_v hS (hS.wanted rfl rfl rfl) rfl (run_load_one (i := 3) Tryz.isAgg22 hS rfl rfl rfl) fun a hS => st_v hS (hS.wanted rfl rfl rfl) rfl (run_load_all (i := 1) Tryz.isAgg31 Tryz.sizeOf31 hS rfl rfl rfl) fun a hS => st_call (spans_lies Vt.y t.Y q ((fun W hC => (Ht W hC).2.1) _ hS.below) (by omega)) Tryz.call188 hS (hS.wanted rfl rfl rfl) rfl rfl fun v W a hR hB hlt hS => ?_
    subst hR
    refine st_v hS (hS.wanted rfl rfl rfl) rfl (run_not hS rfl) fun a hS => st_v hS rfl rfl (run_pick_f hS rfl rfl) fun a hS => wl_nil ?_
    refine st_cond hS rfl (fun hc4 => ?_) (fun hc4 => ?_)
    ·
     try simp only [ty] at hc4
     refine wpIn_seq ?_
     refine wpIn_region_lit ?_
     refine st_v hS rfl rfl (run_assign hS rfl) fun a hS => wl_nil ?_
     refine wpIn_ret ?_
     repeat (first | refine q_ret ?_ | refine q_block_ret ?_)
     refine hS.done (res1 (fn := Tryz.f116) (r1 := .tmp 6) rfl (rv_tmp hS rfl)) ?_
     have hpq : (p.ok && q.ok) = true := by
       simp at hc2; cases h1 : p.ok <;> cases h2 : q.ok <;> simp [h1, h2] at hc2 ⊢
     rw [if_pos hok, if_pos hpq]; simp [liesT, hc1, hc2, hc3, hc4]
    ·
     try simp only [ty] at hc4
     refine wpIn_skip ?_
     refine wpIn_seq ?_
     refine wpIn_region_lit ?_
     refine st_v hS rfl rfl (run_assign hS rfl) fun a hS => wl_nil ?_
     refine wpIn_ret ?_
     repeat (first | refine q_ret ?_ | refine q_block_ret ?_)
     refine hS.done (res1 (fn := Tryz.f116) (r1 := .tmp 6) rfl (rv_tmp hS rfl)) ?_
     have hpq : (p.ok && q.ok) = true := by
       simp at hc2; cases h1 : p.ok <;> cases h2 : q.ok <;> simp [h1, h2] at hc2 ⊢
     rw [if_pos hok, if_pos hpq]; simp [liesT, hc1, hc2, hc3, hc4]
set_option maxHeartbeats 2000000 in
set_option maxRecDepth 100000 in
theorem cmp_Or  (sxs : SV) (xs : List Int) {w : World} {Fxs : Nat → Prop} (hxs : Sl kInt Fxs w sxs xs)  : Ret Tryz.prog 235 [.slice sxs.a xs.length sxs.c] w (fun v _ => v = .int .i64 (orOf xs)) := by
 refine ret_start (n := 18) Tryz.func235 rfl rfl rfl (fun a hS => ?_)
 have Hxs : ∀ W, Below w.heap.size w W → Sl kInt Fxs W sxs xs := fun W hb => hxs.at_ hb
 have hmxs := hxs.len
 refine wpIn_seq ?_
 refine wpIn_region_lit ?_
 refine st_v hS rfl rfl (run_assign hS rfl) fun a hS => wl_nil ?_
 refine wpIn_seq ?_
 refine wpIn_region_lit ?_
 refine st_v hS rfl rfl (run_assign hS rfl) fun a hS => wl_nil ?_
 refine wpIn_seq ?_
 refine wpIn_seq ?_
 refine wpIn_region_lit ?_
 refine st_v hS rfl rfl (run_move hS rfl) fun a hS => st_v hS rfl rfl (run_len_slice Tryz.underlying22 hS rfl) fun a hS => st_v hS rfl rfl (run_move hS rfl) fun a hS => wl_nil ?_
 refine wpIn_block ?_
 refine st_loop2 (α := Nat) (fun x => [(8, .int .i64 (((x : Nat) : Int)))]) [(0, _), (3, _), (6, _), (7, _)] (fun l _ => l) (fun x => x ≤ xs.length ∧ orOf (xs.drop x) = orOf xs) (fun x => xs.length - x) (0) hS (Sub.cons rfl (Sub.cons rfl (Sub.cons rfl (Sub.cons rfl (Sub.cons rfl Sub.nil))))) rfl (⟨Nat.zero_le _, rfl⟩) (fun x W a hφ hS => ?_)
 dsimp only [setB, List.cons_append, List.nil_append, List.take] at hS
 obtain ⟨hx, hg⟩ := hφ
 refine wpIn_seq ?_
 refine wpIn_region_lit ?_
 refine st_v hS rfl rfl (run_bin hS rfl rfl rfl) fun a hS => wl_nil ?_
 refine wpIn_seq ?_
 refine st_cond hS rfl (fun hc1 => ?_) (fun hc1 => ?_)
 ·
  try simp only [ty] at hc1
  refine wpIn_skip ?_
  refine wpIn_seq ?_
  refine wpIn_block ?_
  refine wpIn_seq ?_
  refine wpIn_region_lit ?_
  obtain ⟨ad0, hA0, hL0⟩ := sl_int Hxs (Below.refl _ _) (i := ((x : Nat) : Int)) (j := x) (by omega) (by omega)
  refine st_v hS rfl rfl (run_indexAddr Tryz.underlying22 Tryz.sizeOf3 hS rfl rfl hA0 (by omega) (by omega)) fun a hS => st_v hS rfl rfl (run_load_cell Tryz.isAgg3 hS rfl (hL0 _ hS.below)) fun a hS => st_v hS rfl rfl (run_assign hS rfl) fun a hS => wl_nil ?_
  refine wpIn_seq ?_
  refine wpIn_region_lit ?_
  refine st_v hS rfl rfl (run_move hS rfl) fun a hS => st_v hS rfl rfl (run_move hS rfl) fun a hS => st_v hS rfl rfl (run_bin hS rfl rfl rfl) fun a hS => wl_nil ?_
  refine st_cond hS rfl (fun hc2 => ?_) (fun hc2 => ?_)
  ·
   try simp only [ty] at hc2
   refine wpIn_seq ?_
   refine wpIn_region_lit ?_
   refine st_v hS rfl rfl (run_move hS rfl) fun a hS => st_v hS rfl rfl (run_assign hS rfl) fun a hS => wl_nil ?_
   refine wpIn_ret ?_
   repeat (first | refine q_ret ?_ | refine q_block_ret ?_)
   refine hS.done (res1 (fn := Tryz.f235) (r1 := .tmp 2) rfl (rv_tmp hS rfl)) ?_
   rw [← hg, List.drop_eq_getElem_cons (by omega : x < xs.length)]; have e : xs[x]'(by omega) = ix xs x := by simp [ix, List.getD_eq_getElem?_getD, show x < xs.length by omega]
   rw [e]; simp [orOf, hc2]
  ·
   try simp only [ty] at hc2
   refine wpIn_skip ?_
   refine wpIn_region_lit ?_
   refine st_v hS rfl rfl (run_add (t := ((x + 1 : Nat) : Int)) hS rfl rfl (by omega) (by omega) (by omega)) fun a hS => st_v hS rfl rfl (run_move hS rfl) fun a hS => wl_nil ?_
   refine ⟨x + 1, ⟨⟨by omega, ?_⟩, by omega⟩, (hS.sub (Sub.cons rfl (Sub.cons rfl (Sub.cons rfl (Sub.cons rfl (Sub.cons rfl Sub.nil))))))⟩
   rw [← hg, List.drop_eq_getElem_cons (by omega : x < xs.length)]; have e : xs[x]'(by omega) = ix xs x := by simp [ix, List.getD_eq_getElem?_getD, show x < xs.length by omega]
   rw [e]; simp [orOf, hc2]
 ·
  try simp only [ty] at hc1
  refine wpIn_exit ?_
  refine wpIn_seq ?_
  refine wpIn_region_lit ?_
  refine st_v hS rfl rfl (run_move hS rfl) fun a hS => st_v hS rfl rfl (run_assign hS rfl) fun a hS => wl_nil ?_
  refine wpIn_ret ?_
  repeat (first | refine q_ret ?_ | refine q_block_ret ?_)
  refine hS.done (res1 (fn := Tryz.f235) (r1 := .tmp 2) rfl (rv_tmp hS rfl)) ?_
  rw [← hg, List.drop_of_length_le (by omega)]; rfl
set_option maxHeartbeats 2000000 in
set_option maxRecDepth 100000 in
theorem spans_compare  (p : Span) (q : Span) {w : World}  (hp1 : 1 ≤ p.hi ∧ p.hi ≤ 100000000) (hp2 : -400000000000000 ≤ p.lo ∧ p.lo ≤ 400000000000000) (hq1 : 1 ≤ q.hi ∧ q.hi ≤ 100000000) (hq2 : -400000000000000 ≤ q.lo ∧ q.lo ≤ 400000000000000) : Ret Tryz.prog 190 [.agg (spanC p).toArray, .agg (spanC q).toArray] w (fun v _ => v = .int .i64 (cmpV p q)) := by
 refine ret_start (n := 43) Tryz.func190 rfl rfl rfl (fun a hS => ?_)
 have a1 := fl_rest (n := p.lo) (d := p.hi) (by omega); have a2 := fl_rest (n := q.lo) (d := q.hi) (by omega)
 have a3 := fl_abs (n := p.lo) (d := p.hi) (B := 400000000000000) (by omega) (by omega) (by omega); have a4 := fl_abs (n := q.lo) (d := q.hi) (B := 400000000000000) (by omega) (by omega) (by omega)
 have a5 := mul_rest (a := p.lo - fl p.lo p.hi * p.hi) (b := q.hi) (A := 100000000) (B := 100000000) (by omega) (by omega)
 have a6 := mul_rest (a := q.lo - fl q.lo q.hi * q.hi) (b := p.hi) (A := 100000000) (B := 100000000) (by omega) (by omega)
 refine wpIn_seq ?_
 refine wpIn_region_lit ?_
 refine st_box_agg hS rfl rfl rfl fun W a b0 hS => st_box_agg hS rfl rfl rfl fun W a b1 hS => st_v hS rfl rfl (run_assign hS rfl) fun a hS => wl_nil ?_
 refine wpIn_seq ?_
 refine st_draw (by kernel_rfl) (by kernel_rfl) hS ?_
 refine qt_v hS rfl rfl (fun W hB hS => run_fieldAddr fa160_0 hS rfl) fun a hS => qt_v hS rfl rfl (fun W hB hS => run_load_one (i := 1) Tryz.isAgg3 hS rfl rfl rfl) fun a hS => qt_v hS rfl rfl (fun W hB hS => run_fieldAddr fa160_1 hS rfl) fun a hS => qt_v hS rfl rfl (fun W hB hS => run_load_one (i := 1) Tryz.isAgg3 hS rfl rfl rfl) fun a hS => qt_call hS rfl rfl Tryz.call118 rfl (fun W hB hS => spans_floor (by omega) (by omega) (by omega)) fun a hS => qt_v hS rfl rfl (fun W hB hS => run_fieldAddr fa160_0 hS rfl) fun a hS => qt_v hS rfl rfl (fun W hB hS => run_load_one (i := 0) Tryz.isAgg3 hS rfl rfl rfl) fun a hS => qt_v hS rfl rfl (fun W hB hS => run_fieldAddr fa160_1 hS rfl) fun a hS => qt_v hS rfl rfl (fun W hB hS => run_load_one (i := 0) Tryz.isAgg3 hS rfl rfl rfl) fun a hS => qt_call hS rfl rfl Tryz.call118 rfl (fun W hB hS => spans_floor (by omega) (by omega) (by omega)) fun a hS => qt_v hS rfl rfl (fun W hB hS => run_assign hS rfl) fun a hS => qt_v hS rfl rfl (fun W hB hS => run_assign hS rfl) fun a hS => qt_nil hS fun W hS => ?_
 refine wpIn_seq ?_
 refine wpIn_region_lit ?_
 refine st_v hS rfl rfl (run_move hS rfl) fun a hS => st_v hS rfl rfl (run_move hS rfl) fun a hS => st_v hS rfl rfl (run_sub (t := (fl p.lo p.hi) - (fl q.lo q.hi)) hS rfl rfl (rfl) (by omega) (by omega)) fun a hS => st_v hS rfl rfl (run_fieldAddr fa160_0 hS rfl) fun a hS => st_v hS rfl rfl (run_load_one (i := 1) Tryz.isAgg3 hS rfl rfl rfl) fun a hS => st_v hS rfl rfl (run_move hS rfl) fun a hS => st_v hS rfl rfl (run_fieldAddr fa160_1 hS rfl) fun a hS => st_v hS rfl rfl (run_load_one (i := 1) Tryz.isAgg3 hS rfl rfl rfl) fun a hS => st_v hS rfl rfl (run_mul (t := (fl p.lo p.hi) * p.hi) hS rfl rfl (rfl) (by omega)) fun a hS => st_v hS rfl rfl (run_sub (t := p.lo - ((fl p.lo p.hi) * p.hi)) hS rfl rfl (rfl) (by omega) (by omega)) fun a hS => st_v hS rfl rfl (run_fieldAddr fa160_1 hS rfl) fun a hS => st_v hS rfl rfl (run_load_one (i := 0) Tryz.isAgg3 hS rfl rfl rfl) fun a hS => st_v hS rfl rfl (run_mul (t := (p.lo - ((fl p.lo p.hi) * p.hi)) * q.hi) hS rfl rfl (rfl) (by omega)) fun a hS => st_v hS rfl rfl (run_fieldAddr fa160_0 hS rfl) fun a hS => st_v hS rfl rfl (run_load_one (i := 0) Tryz.isAgg3 hS rfl rfl rfl) fun a hS => st_v hS rfl rfl (run_move hS rfl) fun a hS => st_v hS rfl rfl (run_fieldAddr fa160_1 hS rfl) fun a hS => st_v hS rfl rfl (run_load_one (i := 0) Tryz.isAgg3 hS rfl rfl rfl) fun a hS => st_v hS rfl rfl (run_mul (t := (fl q.lo q.hi) * q.hi) hS rfl rfl (rfl) (by omega)) fun a hS => st_v hS rfl rfl (run_sub (t := q.lo - ((fl q.lo q.hi) * q.hi)) hS rfl rfl (rfl) (by omega) (by omega)) fun a hS => st_v hS rfl rfl (run_fieldAddr fa160_1 hS rfl) fun a hS => st_v hS rfl rfl (run_load_one (i := 1) Tryz.isAgg3 hS rfl rfl rfl) fun a hS => st_v hS rfl rfl (run_mul (t := (q.lo - ((fl q.lo q.hi) * q.hi)) * p.hi) hS rfl rfl (rfl) (by omega)) fun a hS => st_v hS rfl rfl (run_sub (t := ((p.lo - ((fl p.lo p.hi) * p.hi)) * q.hi) - ((q.lo - ((fl q.lo q.hi) * q.hi)) * p.hi)) hS rfl rfl (rfl) (by omega) (by omega)) fun a hS => st_buildSlice (pv := [(0, .int .i64 _), (1, .int .i64 _)]) (fun W => bs22_2_0_1 _ _ W) hS rfl rfl rfl fun W a b2 hS => st_call (cmp_Or (⟨some ⟨b2, 0, none⟩, 2⟩ : SV) [(fl p.lo p.hi) - (fl q.lo q.hi), ((p.lo - ((fl p.lo p.hi) * p.hi)) * q.hi) - ((q.lo - ((fl q.lo q.hi) * q.hi)) * p.hi)] (own_sl_of (dk := kInt) (enc := eInt) (xs := [(fl p.lo p.hi) - (fl q.lo q.hi), ((p.lo - ((fl p.lo p.hi) * p.hi)) * q.hi) - ((q.lo - ((fl q.lo q.hi) * q.hi)) * p.hi)]) (fun _ _ _ => rfl) hS (i := 0) rfl (Nat.le_of_ble_eq_true rfl))) Tryz.call235 hS rfl rfl rfl fun v W a hR hB hlt hS => ?_
 subst hR
 refine st_v hS rfl rfl (run_assign hS rfl) fun a hS => wl_nil ?_
 have hS := hS.sub (κ' := [(0, _), (1, _), (2, _), (3, _), (4, _), (5, _), (6, _)]) (Sub.cons rfl (Sub.cons rfl (Sub.cons rfl (Sub.cons rfl (Sub.cons rfl (Sub.cons rfl (Sub.cons rfl Sub.nil)))))))
 refine wpIn_ret ?_
 repeat (first | refine q_ret ?_ | refine q_block_ret ?_)
 refine hS.done (res1 (fn := Tryz.f190) (r1 := .tmp 4) rfl (rv_tmp hS rfl)) ?_
 rfl
set_option maxHeartbeats 2000000 in
set_option maxRecDepth 100000 in
theorem spans_up  (p : Span) {w : World}  (hp1 : 1 ≤ p.hi ∧ p.hi ≤ 100000000) (hp2 : -400000000000000 ≤ p.lo ∧ p.lo ≤ 400000000000000) : Ret Tryz.prog 119 [.agg (spanC p).toArray] w (fun v _ => v = .int .i64 (ce p.lo p.hi)) := by
 refine ret_start (n := 8) Tryz.func119 rfl rfl rfl (fun a hS => ?_)
 refine wpIn_seq ?_
 refine wpIn_region_lit ?_
 refine st_box_agg hS rfl rfl rfl fun W a b0 hS => st_v hS rfl rfl (run_assign hS rfl) fun a hS => wl_nil ?_
 refine wpIn_seq ?_
 refine wpIn_region_lit ?_
 refine st_v hS rfl rfl (run_fieldAddr fa160_0 hS rfl) fun a hS => st_v hS rfl rfl (run_load_one (i := 0) Tryz.isAgg3 hS rfl rfl rfl) fun a hS => st_v hS rfl rfl (run_fieldAddr fa160_1 hS rfl) fun a hS => st_v hS rfl rfl (run_load_one (i := 0) Tryz.isAgg3 hS rfl rfl rfl) fun a hS => st_call (spans_ceil (by omega) (by omega) (by omega)) Tryz.call191 hS rfl rfl rfl fun v W a hR hB hlt hS => ?_
 subst hR
 refine st_v hS rfl rfl (run_assign hS rfl) fun a hS => wl_nil ?_
 refine wpIn_ret ?_
 repeat (first | refine q_ret ?_ | refine q_block_ret ?_)
 refine hS.done (res1 (fn := Tryz.f119) (r1 := .tmp 2) rfl (rv_tmp hS rfl)) ?_
 rfl
set_option maxHeartbeats 2000000 in
set_option maxRecDepth 100000 in
theorem spans_made  {lo : Int} {hi : Int} {w : World}   : Ret Tryz.prog 213 [.int .i64 lo, .int .i64 hi] w (fun v _ => v = .tuple #[.agg (spanC (if (⟨lo, hi⟩ : Span).ok then ⟨lo, hi⟩ else ⟨0, 0⟩)).toArray, .int .i64 (if (⟨lo, hi⟩ : Span).ok then 0 else 2)]) := by
 refine ret_start (n := 15) Tryz.func213 rfl rfl rfl (fun a hS => ?_)
 refine wpIn_seq ?_
 refine wpIn_region_lit ?_
 refine st_alloc_agg Tryz.zeroValue31 hS rfl rfl fun W a b0 hS => st_v hS rfl rfl (run_assign hS rfl) fun a hS => wl_nil ?_
 refine wpIn_seq ?_
 refine wpIn_region_lit ?_
 refine st_v hS rfl rfl (run_move hS rfl) fun a hS => st_v hS rfl rfl (run_move hS rfl) fun a hS => st_v hS rfl rfl (run_build (pv := [(0, .int .i64 _), (1, .int .i64 _)]) (fun W => bd31_0_1 _ _ W) hS rfl) fun a hS => st_alloc_agg Tryz.zeroValue31 hS rfl rfl fun W a b1 hS => st_store (i := 0) Tryz.sizeOf31 hS rfl rfl rfl rfl rfl rfl rfl rfl rfl fun W a hS => wl_nil ?_
 refine wpIn_seq ?_
 refine wpIn_seq ?_
 refine wpIn_region_lit ?_
 refine st_v hS rfl rfl (run_load_all (i := 0) Tryz.isAgg31 Tryz.sizeOf31 hS rfl rfl rfl) fun a hS => st_call (spans_valid (⟨lo, hi⟩ : Span)) Tryz.call231 hS rfl rfl rfl fun v W a hR hB hlt hS => ?_
 subst hR
 refine st_v hS rfl rfl (run_not hS rfl) fun a hS => wl_nil ?_
 refine st_cond hS rfl (fun hc1 => ?_) (fun hc1 => ?_)
 ·
  try simp only [ty] at hc1
  refine wpIn_seq ?_
  refine wpIn_region_lit ?_
  refine st_v hS rfl rfl (run_build (pv := []) (fun W => bd31_ W) hS rfl) fun a hS => st_store (i := 1) Tryz.sizeOf31 hS rfl rfl rfl rfl rfl rfl rfl rfl rfl fun W a hS => st_v hS rfl rfl (run_assign hS rfl) fun a hS => wl_nil ?_
  refine wpIn_ret ?_
  repeat (first | refine q_ret ?_ | refine q_block_ret ?_)
  refine hS.done (res2 (fn := Tryz.f213) (r1 := .cell 4 31) (r2 := .tmp 5) rfl (rv_agg (i := 1) Tryz.isAgg31 Tryz.sizeOf31 hS rfl rfl rfl) (rv_tmp hS rfl)) ?_
  simp only [hc1, if_true, Bool.false_eq_true, if_false]; rfl
 ·
  try simp only [ty] at hc1
  refine wpIn_skip ?_
  refine wpIn_seq ?_
  refine wpIn_region_lit ?_
  refine st_v hS rfl rfl (run_load_all (i := 0) Tryz.isAgg31 Tryz.sizeOf31 hS rfl rfl rfl) fun a hS => st_store (i := 1) Tryz.sizeOf31 hS rfl rfl rfl rfl rfl rfl rfl rfl rfl fun W a hS => st_v hS rfl rfl (run_assign hS rfl) fun a hS => wl_nil ?_
  refine wpIn_ret ?_
  repeat (first | refine q_ret ?_ | refine q_block_ret ?_)
  refine hS.done (res2 (fn := Tryz.f213) (r1 := .cell 4 31) (r2 := .tmp 5) rfl (rv_agg (i := 1) Tryz.isAgg31 Tryz.sizeOf31 hS rfl rfl rfl) (rv_tmp hS rfl)) ?_
  simp only [hc1, if_true, Bool.false_eq_true, if_false]; rfl
set_option maxHeartbeats 2000000 in
set_option maxRecDepth 100000 in
theorem ref01_made  (p : Span) {w : World}   : Ret Tryz.prog 237 [.agg (spanC p).toArray] w (fun v _ => v = .tuple #[.agg (spanC (if p.ok then p else ⟨0, 0⟩)).toArray, .int .i64 (if p.ok then 0 else 2)]) := by
 refine ret_start (n := 9) Tryz.func237 rfl rfl rfl (fun a hS => ?_)
 refine wpIn_seq ?_
 refine wpIn_region_lit ?_
 refine st_box_agg hS rfl rfl rfl fun W a b0 hS => st_alloc_agg Tryz.zeroValue31 hS rfl rfl fun W a b1 hS => st_v hS rfl rfl (run_assign hS rfl) fun a hS => wl_nil ?_
 refine wpIn_seq ?_
 refine wpIn_seq ?_
 refine wpIn_region_lit ?_
 refine st_v hS rfl rfl (run_load_all (i := 1) Tryz.isAgg31 Tryz.sizeOf31 hS rfl rfl rfl) fun a hS => st_call (ref01_Valid p) Tryz.call184 hS rfl rfl rfl fun v W a hR hB hlt hS => ?_
 subst hR
 refine st_v hS rfl rfl (run_not hS rfl) fun a hS => wl_nil ?_
 refine st_cond hS rfl (fun hc1 => ?_) (fun hc1 => ?_)
 ·
  try simp only [ty] at hc1
  refine wpIn_seq ?_
  refine wpIn_region_lit ?_
  refine st_v hS rfl rfl (run_build (pv := []) (fun W => bd31_ W) hS rfl) fun a hS => st_store (i := 0) Tryz.sizeOf31 hS rfl rfl rfl rfl rfl rfl rfl rfl rfl fun W a hS => st_v hS rfl rfl (run_assign hS rfl) fun a hS => wl_nil ?_
  refine wpIn_ret ?_
  repeat (first | refine q_ret ?_ | refine q_block_ret ?_)
  refine hS.done (res2 (fn := Tryz.f237) (r1 := .cell 2 31) (r2 := .tmp 3) rfl (rv_agg (i := 0) Tryz.isAgg31 Tryz.sizeOf31 hS rfl rfl rfl) (rv_tmp hS rfl)) ?_
  simp only [hc1, if_true, Bool.false_eq_true, if_false]; rfl
 ·
  try simp only [ty] at hc1
  refine wpIn_skip ?_
  refine wpIn_seq ?_
  refine wpIn_region_lit ?_
  refine st_v hS rfl rfl (run_load_all (i := 1) Tryz.isAgg31 Tryz.sizeOf31 hS rfl rfl rfl) fun a hS => st_store (i := 0) Tryz.sizeOf31 hS rfl rfl rfl rfl rfl rfl rfl rfl rfl fun W a hS => st_v hS rfl rfl (run_assign hS rfl) fun a hS => wl_nil ?_
  refine wpIn_ret ?_
  repeat (first | refine q_ret ?_ | refine q_block_ret ?_)
  refine hS.done (res2 (fn := Tryz.f237) (r1 := .cell 2 31) (r2 := .tmp 3) rfl (rv_agg (i := 0) Tryz.isAgg31 Tryz.sizeOf31 hS rfl rfl rfl) (rv_tmp hS rfl)) ?_
  simp only [hc1, if_true, Bool.false_eq_true, if_false]; rfl
set_option maxHeartbeats 2000000 in
set_option maxRecDepth 100000 in
theorem spans_stops  (sl : SV) (l : List Int) (p : Span) {w : World} {Fl : Nat → Prop} (hl : Sl kInt Fl w sl l) (hl12 : l.length ≤ 12) : Ret Tryz.prog 233 [.slice sl.a l.length sl.c, .agg (spanC p).toArray] w (fun v W' => ∃ s : SV, v = .slice s.a (stops l p.lo p.hi).length s.c ∧ Sl kInt (fun k => w.heap.size ≤ k) W' s (stops l p.lo p.hi)) := by
 refine ret_start (n := 43) Tryz.func233 rfl rfl rfl (fun a hS => ?_)
 have Hl : ∀ W, Below w.heap.size w W → Sl kInt Fl W sl l := fun W hb => hl.at_ hb
 have hml := hl.len
 refine wpIn_seq ?_
 refine wpIn_region_lit ?_
 refine st_box_agg hS rfl rfl rfl fun W a b0 hS => st_v hS rfl rfl (run_assign hS rfl) fun a hS => wl_nil ?_
 refine wpIn_seq ?_
 refine wpIn_region_lit ?_
 refine st_v hS rfl rfl (run_fieldAddr fa31_0 hS rfl) fun a hS => st_v hS rfl rfl (run_load_one (i := 0) Tryz.isAgg3 hS rfl rfl rfl) fun a hS => st_buildSlice (pv := [(0, .int .i64 _)]) (fun W => bs22_1_0 _ W) hS rfl rfl rfl fun W a b1 hS => ?_
 have hO1 : OwnL eInt 1 _ ([p.lo]) _ := OwnR.made b1 1 1 _ rfl (by decide)
 have hS := hS.toRow (k := 1) (c := 1)
 refine st_v hS rfl rfl (run_assign hS rfl) fun a hS => wl_nil ?_
 refine wpIn_seq ?_
 refine wpIn_seq ?_
 refine wpIn_region_lit ?_
 refine st_v hS rfl rfl (run_move hS rfl) fun a hS => st_v hS rfl rfl (run_len_slice Tryz.underlying22 hS rfl) fun a hS => st_v hS rfl rfl (run_move hS rfl) fun a hS => wl_nil ?_
 refine wpIn_block ?_
 refine st_loop2 (α := Nat × Value × List Value) (fun z => [(5, z.2.1), (13, .int .i64 ((z.1 : Nat) : Int))]) [(0, _), (1, _), (3, _), (4, _), (11, _), (12, _)] (fun l z => l.take 1 ++ rowB z.2.1 z.2.2 3) (fun z => z.1 ≤ l.length ∧ OwnL eInt 1 z.2.1 (stopsI l p.lo p.hi z.1) z.2.2) (fun z => l.length - z.1) (⟨0, _, _⟩) hS (Sub.cons rfl (Sub.cons rfl (Sub.cons rfl (Sub.cons rfl (Sub.cons rfl (Sub.cons rfl (Sub.cons rfl (Sub.cons rfl Sub.nil)))))))) rfl (⟨Nat.zero_le _, by simpa [stopsI] using hO1⟩) (fun z W a hφ hS => ?_)
 obtain ⟨i, v, cs⟩ := z
 dsimp only [setB, List.cons_append, List.nil_append, List.take] at hS hφ
 obtain ⟨hi, hO⟩ := hφ
 have hsl := stopsI_len l p.lo p.hi i
 refine wpIn_seq ?_
 refine wpIn_region_lit ?_
 refine st_v hS rfl rfl (run_bin hS rfl rfl rfl) fun a hS => wl_nil ?_
 refine wpIn_seq ?_
 refine st_cond hS rfl (fun hc1 => ?_) (fun hc1 => ?_)
 ·
  try simp only [ty] at hc1
  refine wpIn_skip ?_
  refine wpIn_seq ?_
  refine wpIn_block ?_
  refine wpIn_seq ?_
  refine wpIn_region_lit ?_
  obtain ⟨ad0, hA0, hL0⟩ := sl_int Hl (Below.refl _ _) (i := ((i : Nat) : Int)) (j := i) (by omega) (by omega)
  refine st_v hS rfl rfl (run_indexAddr Tryz.underlying22 Tryz.sizeOf3 hS rfl rfl hA0 (by omega) (by omega)) fun a hS => st_v hS rfl rfl (run_load_cell Tryz.isAgg3 hS rfl (hL0 _ hS.below)) fun a hS => st_v hS rfl rfl (run_assign hS rfl) fun a hS => wl_nil ?_
  refine wpIn_seq ?_
  refine wpIn_region_lit ?_
  refine st_v hS rfl rfl (run_move hS rfl) fun a hS => st_v hS rfl rfl (run_fieldAddr fa31_0 hS rfl) fun a hS => st_v hS rfl rfl (run_load_one (i := 0) Tryz.isAgg3 hS rfl rfl rfl) fun a hS => st_v hS rfl rfl (run_bin hS rfl rfl rfl) fun a hS => st_v hS rfl rfl (run_move hS rfl) fun a hS => ?_
  refine st_split (d := 21) hS rfl (fun hc2 hS => ?_) (fun hc2 hS => ?_)
  ·
   try simp only [ty] at hc2
   refine st_v hS (hS.wanted rfl rfl rfl) rfl (run_move hS rfl) fun a hS => st_v hS (hS.wanted rfl rfl rfl) rfl (run_fieldAddr fa31_1 hS rfl) fun a hS => st_v hS (hS.wanted rfl rfl rfl) rfl (run_load_one (i := 0) Tryz.isAgg3 hS rfl rfl rfl) fun a hS => st_v hS (hS.wanted rfl rfl rfl) rfl (run_bin hS rfl rfl rfl) fun a hS => st_v hS rfl rfl (run_pick_t hS rfl rfl) fun a hS => wl_nil ?_
   refine st_cond hS rfl (fun hc3 => ?_) (fun hc3 => ?_)
   ·
    try simp only [ty] at hc3
    refine wpIn_region_lit ?_
    refine st_v hS rfl rfl (run_move hS rfl) fun a hS => st_v hS rfl rfl (run_move hS rfl) fun a hS => st_buildSlice (pv := [(0, .int .i64 _)]) (fun W => bs22_1_0 _ W) hS rfl rfl rfl fun W a b2 hS => st_append (l := [_, _]) (cs := cs) Tryz.underlying22 (AI.of ai3) (by decide) hS hO rfl rfl rfl rfl (src_own (sz := 1) Tryz.underlying22 hS (i := 0) rfl rfl rfl) (by omega) fun W a v1 cs1 hO1 hS => ?_
    have hO1' : OwnL eInt 1 v1 ((stopsI l p.lo p.hi i) ++ [ix l i]) cs1 := OwnL.app hO1 rfl rfl rfl rfl
    refine st_v hS rfl rfl (run_assign hS rfl) fun a hS => wl_nil ?_
    refine wpIn_region_lit ?_
    refine st_v hS rfl rfl (run_add (t := ((i + 1 : Nat) : Int)) hS rfl rfl (by omega) (by omega) (by omega)) fun a hS => st_v hS rfl rfl (run_move hS rfl) fun a hS => wl_nil ?_
    refine ⟨⟨i + 1, _, _⟩, ⟨⟨by omega, ?_⟩, by omega⟩, (hS.sub (Sub.cons rfl (Sub.cons rfl (Sub.cons rfl (Sub.cons rfl (Sub.cons rfl (Sub.cons rfl (Sub.cons rfl (Sub.cons rfl Sub.nil))))))))).drop (List.Sublist.cons _ (List.Sublist.refl _))⟩
    rw [stopsI_on (by omega) (by omega) (by omega)]; assumption
   ·
    try simp only [ty] at hc3
    refine wpIn_skip ?_
    refine wpIn_region_lit ?_
    refine st_v hS rfl rfl (run_add (t := ((i + 1 : Nat) : Int)) hS rfl rfl (by omega) (by omega) (by omega)) fun a hS => st_v hS rfl rfl (run_move hS rfl) fun a hS => wl_nil ?_
    refine ⟨⟨i + 1, _, _⟩, ⟨⟨by omega, ?_⟩, by omega⟩, (hS.sub (Sub.cons rfl (Sub.cons rfl (Sub.cons rfl (Sub.cons rfl (Sub.cons rfl (Sub.cons rfl (Sub.cons rfl (Sub.cons rfl Sub.nil)))))))))⟩
    rw [stopsI_off (by omega) (by omega)]; assumption
  ·
   try simp only [ty] at hc2
   refine st_skip hS (hS.unwanted rfl rfl rfl rfl) rfl fun a hS => st_skip hS (hS.unwanted rfl rfl rfl rfl) rfl fun a hS => st_skip hS (hS.unwanted rfl rfl rfl rfl) rfl fun a hS => st_skip hS (hS.unwanted rfl rfl rfl rfl) rfl fun a hS => st_v hS rfl rfl (run_pick_f hS rfl rfl) fun a hS => wl_nil ?_
   refine st_cond_f hS rfl ?_
   refine wpIn_skip ?_
   refine wpIn_region_lit ?_
   refine st_v hS rfl rfl (run_add (t := ((i + 1 : Nat) : Int)) hS rfl rfl (by omega) (by omega) (by omega)) fun a hS => st_v hS rfl rfl (run_move hS rfl) fun a hS => wl_nil ?_
   refine ⟨⟨i + 1, _, _⟩, ⟨⟨by omega, ?_⟩, by omega⟩, (hS.sub (Sub.cons rfl (Sub.cons rfl (Sub.cons rfl (Sub.cons rfl (Sub.cons rfl (Sub.cons rfl (Sub.cons rfl (Sub.cons rfl Sub.nil)))))))))⟩
   rw [stopsI_off (by omega) (by omega)]; assumption
 ·
  try simp only [ty] at hc1
  refine wpIn_exit ?_
  refine wpIn_seq ?_
  refine wpIn_seq ?_
  refine wpIn_region_lit ?_
  refine st_v hS rfl rfl (run_fieldAddr fa31_1 hS rfl) fun a hS => st_v hS rfl rfl (run_load_one (i := 0) Tryz.isAgg3 hS rfl rfl rfl) fun a hS => st_v hS rfl rfl (run_fieldAddr fa31_0 hS rfl) fun a hS => st_v hS rfl rfl (run_load_one (i := 0) Tryz.isAgg3 hS rfl rfl rfl) fun a hS => st_v hS rfl rfl (run_bin hS rfl rfl rfl) fun a hS => wl_nil ?_
  refine st_cond hS rfl (fun hc4 => ?_) (fun hc4 => ?_)
  ·
   try simp only [ty] at hc4
   refine wpIn_region_lit ?_
   refine st_v hS rfl rfl (run_move hS rfl) fun a hS => st_v hS rfl rfl (run_fieldAddr fa31_1 hS rfl) fun a hS => st_v hS rfl rfl (run_load_one (i := 0) Tryz.isAgg3 hS rfl rfl rfl) fun a hS => st_buildSlice (pv := [(0, .int .i64 _)]) (fun W => bs22_1_0 _ W) hS rfl rfl rfl fun W a b3 hS => st_append (l := [_, _]) (cs := cs) Tryz.underlying22 (AI.of ai3) (by decide) hS hO rfl rfl rfl rfl (src_own (sz := 1) Tryz.underlying22 hS (i := 0) rfl rfl rfl) (by omega) fun W a v2 cs2 hO2 hS => ?_
   have hO2' : OwnL eInt 1 v2 ((stopsI l p.lo p.hi i) ++ [p.hi]) cs2 := OwnL.app hO2 rfl rfl rfl rfl
   refine st_v hS rfl rfl (run_assign hS rfl) fun a hS => wl_nil ?_
   refine wpIn_seq ?_
   refine wpIn_region_lit ?_
   refine st_v hS rfl rfl (run_move hS rfl) fun a hS => st_v hS rfl rfl (run_assign hS rfl) fun a hS => wl_nil ?_
   refine wpIn_ret ?_
   repeat (first | refine q_ret ?_ | refine q_block_ret ?_)
   refine hS.done (res1 (fn := Tryz.f233) (r1 := .tmp 4) rfl (rv_tmp hS rfl)) ?_
   rw [stopsI_end (i := i) (by omega), if_pos (by omega)]; exact OwnL.ints (l := [_, _]) hS (by assumption) (by simp only [List.length_append, List.length_cons, List.length_nil]; omega)
  ·
   try simp only [ty] at hc4
   refine wpIn_skip ?_
   refine wpIn_seq ?_
   refine wpIn_region_lit ?_
   refine st_v hS rfl rfl (run_move hS rfl) fun a hS => st_v hS rfl rfl (run_assign hS rfl) fun a hS => wl_nil ?_
   refine wpIn_ret ?_
   repeat (first | refine q_ret ?_ | refine q_block_ret ?_)
   refine hS.done (res1 (fn := Tryz.f233) (r1 := .tmp 4) rfl (rv_tmp hS rfl)) ?_
   rw [stopsI_end (i := i) (by omega), if_neg (by omega), List.append_nil]; exact OwnL.ints (l := [_]) hS (by assumption) (by omega)
end Go.Proofs.YtdnodlgebpnfoaaGreat
namespace Go.Proofs.YtdnodlgebpnfoaaGreat
open Go Go.RowKit Go.Shelf Sw
section
variable {P : Program} {r : Option Nat} {m : Nat} {ops : Array Oper} {Q : Exit → Act → World → Prop}
  {ds : List Nat} {w W : World} {n : Nat} {a : Act} {κ : KV} {l : List Blk} {Φ : World → Prop}
theorem later_drawn (W : World) : Below W.heap.size W { W with drawn := W.drawn + 1 } := ⟨rfl, rfl, rfl, Nat.le_refl _, fun _ _ => rfl⟩
theorem wpIn_unthen {o : Oper} {K K' : Act → World → Prop} (h : o.wpIn (Fw r) m P a W K (Exit.then K' Q)) : o.wpIn (Fw r) m P a W K Q := by
  unfold Oper.wpIn at *
  refine ⟨h.1, ?_⟩
  have hh := h.2
  generalize (o.semAt (Fw r).round a.eval).run P W = x at *
  cases x with
  | ok x w' =>
    cases x <;> simp only [Oper.uponIn] at hh ⊢ <;>
      first
        | exact hh
        | exact ⟨hh.1, CallsIn.mono hh.2 (fun e w'' he => by cases e <;> exact he)⟩
        | exact ⟨hh.1, RoundIn.mono hh.2 (fun e w'' he => by cases e <;> exact he)⟩
  | halt x w' => cases x <;> simp only [Oper.uponIn] at hh ⊢ <;> exact hh
def AnyL (P : Program) (r : Option Nat) (m : Nat) (ops : Array Oper) (Q : Exit → Act → World → Prop) (fuel : Nat) (listed : Array Bool) (a : Act) (W : World) : List Nat → Prop
  | [] => True
  | i :: is => (∃ o, ops[i]? = some o ∧ wpListIn (Fw r) m P ops (Exit.then (wpAnyIn (Fw r) m P .any ops Q fuel (listed.setIfInBounds i true)) Q) [o] a W) ∧ AnyL P r m ops Q fuel listed a W is
theorem any_go {rs : List Nat} {fuel : Nat} {listed : Array Bool} (hr : Region.ready .any ops listed = rs) (hne : rs ≠ []) (h : AnyL P r m ops Q fuel listed a W rs) : wpAnyIn (Fw r) m P .any ops Q (fuel + 1) listed a W := by
  refine wpAnyIn_all hr hne fun i hi => ?_
  have key : ∀ l : List Nat, AnyL P r m ops Q fuel listed a W l → i ∈ l → ∃ o, ops[i]? = some o ∧ wpListIn (Fw r) m P ops (Exit.then (wpAnyIn (Fw r) m P .any ops Q fuel (listed.setIfInBounds i true)) Q) [o] a W := by
    intro l
    induction l with
    | nil => intro _ h; cases h
    | cons j l ih =>
      intro h hm
      rcases List.mem_cons.1 hm with rfl | hm
      · exact h.1
      · exact ih h.2 hm
  obtain ⟨o, ho, hw⟩ := key rs h hi
  unfold wpOpIn
  rw [ho]
  unfold wpListIn at hw
  dsimp only
  by_cases hc : Region.wanted o (yielded ops a.tmps) = true
  · rw [if_pos hc] at hw ⊢
    exact wpIn_unthen hw
  · rw [if_neg hc] at hw ⊢
    exact hw
end
structure Wl (ds : List Nat) (w : World) (l : List Blk) (Φ : World → Prop) (W : World) : Prop where
  marks : ∀ D ∈ ds, w.heap.size ≤ D ∧ W.heap[D]? = some (.deferred (some []))
  below : Below w.heap.size w W
  blk : ∀ b ∈ l, W.heap[b.b]? = some (.cells b.cs.toArray b.T (0, 0))
  old : ∀ b ∈ l, w.heap.size ≤ b.b
  dist : l.Pairwise (fun x y => x.b ≠ y.b)
  fact : ∀ W', Off l W W' → W.heap.size ≤ W'.heap.size → Φ W'
section
variable {P : Program} {m : Nat} {ops : Array Oper} {Q : Exit → Act → World → Prop}
  {ds : List Nat} {w W : World} {n : Nat} {a : Act} {κ : KV} {l lS : List Blk} {Φ Ψ : World → Prop} {S : World → Prop}
theorem St.wl (h : St ds w W n a κ l Φ) (hs : lS.Sublist l) : Wl ds w lS Φ W :=
  have h' := h.drop hs
  ⟨h'.defers.2, h'.below, h'.blk, h'.old, h'.dist, h'.fact⟩
theorem Wl.st {W' : World} (h : St ds w W n a κ l Φ) (h' : Wl ds w lS Ψ W') : St ds w W' n a κ lS Ψ :=
  ⟨h.size, ⟨h.defers.1, h'.marks⟩, h.get, h'.below, h'.blk, h'.old, h'.dist, h'.fact⟩
theorem Wl.less {W : World} (h : Wl ds w l Φ W) (hp : ∀ W, Φ W → Ψ W) : Wl ds w l Ψ W := ⟨h.marks, h.below, h.blk, h.old, h.dist, fun W' ho hz => hp _ (h.fact W' ho hz)⟩
def keepB : List Bool → List Blk → List Blk
  | b :: bs, B :: l => bif b then B :: keepB bs l else keepB bs l
  | _, _ => []
theorem keepB_sub : ∀ (bs : List Bool) (l : List Blk), (keepB bs l).Sublist l
  | [], [] => List.Sublist.slnil
  | [], _ :: _ => List.nil_sublist _
  | _ :: _, [] => List.Sublist.slnil
  | true :: bs, B :: l => (keepB_sub bs l).cons_cons B
  | false :: bs, B :: l => (keepB_sub bs l).cons B
def YIf (P : Program) (ops : Array Oper) (S : World → Prop) (o : Oper) (v : Value) (a : Act) : Prop :=
  Region.wanted o (yielded ops a.tmps) = true ∧ ∀ w, S w → (execOp a.eval o).run P w = .ok (.value v) w
def AnyH (P : Program) (m : Nat) (ops : Array Oper) (Q : Exit → Act → World → Prop) (S : World → Prop) : Nat → Array Bool → Act → World → Prop
  | 0, listed, a, W => Region.ready .any ops listed = [] ∧ Q .normal a W
  | fuel + 1, listed, a, W => (Region.ready .any ops listed = [] → Q .normal a W) ∧
    ∀ i ∈ Region.ready .any ops listed, wpOpIn (Fw none) m P ops Q i (fun a' W' => S W' ∧ AnyH P m ops Q S fuel (listed.setIfInBounds i true) a' W') a W
theorem anyH_sound : ∀ (fuel : Nat) (listed : Array Bool) (a : Act) (W : World), AnyH P m ops Q S fuel listed a W → wpAnyIn (Fw none) m P .any ops Q fuel listed a W
  | 0, _, _, _, h => h
  | fuel + 1, _, _, _, h => ⟨h.1, fun i hi => wpOpIn_mono (fun a' w' h' => anyH_sound fuel _ a' w' h'.2) (h.2 i hi)⟩
theorem wpOpIn_putIf {j : Nat} {oi oj : Oper} {v : Value} (hj : ops[j]? = some oj) (hap : oi.apart ops oj = true)
    (hsi : ∀ cs b, oi.op ≠ .select cs b) (hsj : ∀ cs b, oj.op ≠ .select cs b)
    (hQ : ∀ c a w, Q (.panic c) (a.put oi.dst v) w → Q (.panic c) a w) {K : Act → World → Prop} {a : Act} {w : World}
    (hy : YIf P ops S oi v a) (h : wpOpIn (Fw none) m P ops Q j K (a.put oi.dst v) w) :
    wpOpIn (Fw none) m P ops Q j (fun a' w' => YIf P ops S oi v a' ∧ K (a'.put oi.dst v) w') a w := by
  obtain ⟨h1, h2, h3⟩ := Oper.apart_spec hap
  have keep : ∀ (a : Act), YIf P ops S oi v a → ∀ u, YIf P ops S oi v (a.put oj.dst u) := fun a hy u => by
    unfold YIf at *
    rw [execOp_put oi hsi a oj.dst u h3, wanted_put oi a oj.dst u h3]; exact hy
  have keepD : ∀ d, YIf P ops S oi v { a with defers := d :: a.defers } := fun d => hy
  unfold wpOpIn at *
  simp only [hj] at *
  rw [wanted_put oj a oi.dst v h1, about_put oj w a oi.dst v h1] at h
  split
  · rename_i hw
    simp only [hw, if_true] at h
    unfold Oper.wpIn at *
    rw [about_put oj w a oi.dst v h1] at h
    refine ⟨h.1, ?_⟩
    have h := h.2
    rw [show (Fw none).round = none from rfl, Oper.semAt_none, execOp_put oj hsj a oi.dst v h1] at h
    rw [show (Fw none).round = none from rfl, Oper.semAt_none]
    generalize (execOp a.eval oj).run P w = r at *
    cases r with
    | ok x w' =>
      cases x <;> simp only [Oper.uponIn] at h ⊢
      case value u => exact ⟨keep a hy u, by rw [← Act.put_comm a v u h2]; exact h⟩
      case skip => exact ⟨keep a hy _, by rw [← Act.put_comm a v undef h2]; exact h⟩
      case defer d =>
        refine ⟨keep _ (keepD d) _, ?_⟩
        rw [← Act.put_comm _ v undef h2, ← Act.put_defers]
        exact h
      case enter f args =>
        refine ⟨h.1, CallsIn.mono h.2 fun e w'' he => ?_⟩
        cases e with
        | returned u => exact ⟨keep a hy u, by rw [← Act.put_comm a v u h2]; exact he⟩
        | panicked c => exact hQ _ _ _ he
        | outgrown => exact he
      case row row args => exact ⟨h.1, RowsIn.mono h.2 fun u w'' he => ⟨keep a hy u, by rw [← Act.put_comm a v u h2]; exact he⟩⟩
      case round l f tmps assign body =>
        refine ⟨h.1, RoundIn.mono h.2 fun e w'' he => ?_⟩
        cases e with
        | returned u => exact ⟨keep a hy u, by rw [← Act.put_comm a v u h2]; exact he⟩
        | panicked c => exact hQ _ _ _ he
        | outgrown => exact he
    | halt x w' =>
      cases x <;> simp only [Oper.uponIn] at h ⊢
      case panic u => exact hQ _ _ _ h
  · rename_i hw
    simp only [hw] at h
    exact ⟨h.1, keep a hy _, by rw [← Act.put_comm a v undef h2]; exact h.2⟩
theorem YIf.wpOpIn {i : Nat} {o : Oper} {v : Value} {a : Act} (hi : ops[i]? = some o) (hy : YIf P ops S o v a)
    {K : Act → World → Prop} {W : World} (hS : S W) (hd : notDefer o = true) (ha : ∀ f, o.about P W a.eval = some f → (Fw none).fn f) (h : K (a.put o.dst v) W) : wpOpIn (Fw none) m P ops Q i K a W := by
  unfold Go.wpOpIn
  simp only [hi]
  rw [if_pos hy.1]
  unfold Oper.wpIn
  rw [show (Fw none).round = none from rfl, Oper.semAt_none, hy.2 W hS]
  exact ⟨ha, h⟩
theorem anyH_first {i : Nat} {oi : Oper} {v : Value} (hi : ops[i]? = some oi) (hsel : ∀ (j : Nat) (o : Oper) cs b, ops[j]? = some o → o.op ≠ .select cs b)
    (hQ : ∀ c a w, Q (.panic c) (a.put oi.dst v) w → Q (.panic c) a w) (hnd : notDefer oi = true) :
    ∀ (fuel : Nat) (listed : Array Bool) (a : Act) (W : World),
      (∀ j oj, ops[j]? = some oj → j ≠ i → listed.getD j true = false → (∀ e ∈ oj.after, Region.binds .any e = true → e.on ≠ i) → oi.apart ops oj = true) →
      i ∈ Region.ready .any ops listed → YIf P ops S oi v a → S W →
      AnyH P m ops Q S fuel (listed.setIfInBounds i true) (a.put oi.dst v) W → AnyH P m ops Q S (fuel + 1) listed a W := by
  have tr : ∀ (o : Oper) (W : World) (a : Act), ∀ f, o.about P W a.eval = some f → (Fw none).fn f := fun _ _ _ _ _ => trivial
  intro fuel
  induction fuel with
  | zero =>
    intro listed a w _ hr hy hS H
    refine ⟨fun h => (by rw [h] at hr; cases hr), fun j hj => ?_⟩
    by_cases hji : j = i
    · subst hji; exact hy.wpOpIn hi hS hnd (tr _ _ _) ⟨hS, H⟩
    · have := ready_mono hj hji
      rw [H.1] at this
      cases this
  | succ fuel ih =>
    intro listed a w hfree hr hy hS H
    refine ⟨fun h => (by rw [h] at hr; cases hr), fun j hj => ?_⟩
    by_cases hji : j = i
    · subst hji; exact hy.wpOpIn hi hS hnd (tr _ _ _) ⟨hS, H⟩
    · have h1 := H.2 j (ready_mono hj hji)
      obtain ⟨hjun, oj, hoj, hall⟩ := mem_ready.1 hj
      have hnot : ∀ e ∈ oj.after, Region.binds .any e = true → e.on ≠ i := fun e he hb heq => by
        have h1 := hall e he hb
        have h0 := (mem_ready.1 hr).1
        rw [heq] at h1
        rcases Nat.lt_or_ge i listed.size with h' | h'
        · simp [h'] at h0 h1; rw [h0] at h1; cases h1
        · simp [Array.getElem?_eq_none h'] at h1
      have h2 := wpOpIn_putIf hoj (hfree j oj hoj hji hjun hnot) (fun cs b => hsel i oi cs b hi) (fun cs b => hsel j oj cs b hoj) hQ hy h1
      have hfree' : ∀ k ok, ops[k]? = some ok → k ≠ i → (listed.setIfInBounds j true).getD k true = false →
          (∀ e ∈ ok.after, Region.binds .any e = true → e.on ≠ i) → oi.apart ops ok = true := fun k ok hk hki hun hno => by
        refine hfree k ok hk hki ?_ hno
        by_cases hjk : j = k
        · subst hjk; exact hjun
        · rw [getD_set_ne true hjk] at hun; exact hun
      refine wpOpIn_mono (fun a' w' h3 => ⟨h3.2.1, ih (listed.setIfInBounds j true) a' w' hfree' (ready_mono hr (Ne.symm hji)) h3.1 h3.2.1 ?_⟩) h2
      rw [Array.setIfInBounds_comm _ _ hji]
      exact h3.2.2
theorem anyh_start {id : Nat} (hm : P.follows .mixedOrders = true) (mask : List Bool) (hS : St ds w W n a κ l Φ)
    (K : ∀ W, St ds w W n a κ l Φ → AnyH P m ops (fun e a W => e = .normal ∧ Q .normal a W) (Wl ds w (keepB mask l) Φ) ops.size (Array.replicate ops.size false) a W) : (Code.region id ops true).wpIn (Fw none) m P Q a W := by
  refine wpIn_mono (wpIn_region_any hm (anyH_sound _ _ _ _ (K _ (hS.grow (later_drawn W))))) ?_
  rintro e a w ⟨rfl, h⟩; exact h
theorem anyh_take {i d fuel : Nat} {listed : Array Bool} {op : Op} {ty : TypeId} {pos : String} {af : Array Edge} {v : Value} (mask : List Bool) (hS : St ds w W n a κ l Ψ) (hp : ∀ W, Ψ W → Φ W) (hl : keepB mask l = lS)
    (hi : ops[i]? = some ⟨some d, op, ty, pos, af, none⟩) (hs : Region.noSelect ops = true) (hf : Region.free .any ops listed i = true) (hr : (Region.ready .any ops listed).contains i = true) (hnd : notDefer ⟨some d, op, ty, pos, af, none⟩ = true) (hd : Nat.blt d n = true)
    (hrun : ∀ W', St ds w W' n a κ lS Φ → (execOp a.eval ⟨some d, op, ty, pos, af, none⟩).run P W' = .ok (.value v) W')
    (K : ∀ a, St ds w W n a ((d, v) :: κ) l Ψ → AnyH P m ops (fun e a W => e = .normal ∧ Q .normal a W) (Wl ds w lS Φ) fuel (listed.setIfInBounds i true) a W) :
    AnyH P m ops (fun e a W => e = .normal ∧ Q .normal a W) (Wl ds w lS Φ) (fuel + 1) listed a W := by
  subst hl
  exact anyH_first hi (Region.noSelect_spec hs) (fun c a w h => by cases h.1) hnd fuel listed a W (Region.free_spec hi hf) (by simpa using hr)
    ⟨by simp [Region.wanted], fun W' hW => hrun W' (hW.st hS)⟩ ((hS.wl (keepB_sub _ _)).less hp) (K _ (hS.put hd v))
def AnyHL (P : Program) (m : Nat) (ops : Array Oper) (Q : Exit → Act → World → Prop) (S : World → Prop) (fuel : Nat) (listed : Array Bool) (a : Act) (W : World) : List Nat → Prop
  | [] => True
  | i :: is => (∃ o, ops[i]? = some o ∧ wpListIn (Fw none) m P ops (Exit.then (fun a' W' => S W' ∧ AnyH P m ops Q S fuel (listed.setIfInBounds i true) a' W') Q) [o] a W) ∧ AnyHL P m ops Q S fuel listed a W is
theorem anyh_go {rs : List Nat} {fuel : Nat} {listed : Array Bool} (hr : Region.ready .any ops listed = rs) (hne : rs ≠ []) (h : AnyHL P m ops Q S fuel listed a W rs) : AnyH P m ops Q S (fuel + 1) listed a W := by
  refine ⟨fun h0 => absurd (hr ▸ h0) hne, fun i hi => ?_⟩
  rw [hr] at hi
  have key : ∀ l : List Nat, AnyHL P m ops Q S fuel listed a W l → i ∈ l → ∃ o, ops[i]? = some o ∧ wpListIn (Fw none) m P ops (Exit.then (fun a' W' => S W' ∧ AnyH P m ops Q S fuel (listed.setIfInBounds i true) a' W') Q) [o] a W := by
    intro l
    induction l with
    | nil => intro _ h; cases h
    | cons j l ih =>
      intro h hm
      rcases List.mem_cons.1 hm with rfl | hm
      · exact h.1
      · exact ih h.2 hm
  obtain ⟨o, ho, hw⟩ := key rs h hi
  unfold wpOpIn
  rw [ho]
  unfold wpListIn at hw
  dsimp only
  by_cases hc : Region.wanted o (yielded ops a.tmps) = true
  · rw [if_pos hc] at hw ⊢
    exact wpIn_unthen hw
  · rw [if_neg hc] at hw ⊢
    exact hw
theorem anyh_next {fuel : Nat} {listed : Array Bool} (mask : List Bool) (hS : St ds w W n a κ l Ψ) (hp : ∀ W, Ψ W → Φ W) (hl : keepB mask l = lS)
    (h : AnyH P m ops (fun e a W => e = .normal ∧ Q .normal a W) (Wl ds w lS Φ) fuel listed a W) :
    Exit.then (fun a' W' => Wl ds w lS Φ W' ∧ AnyH P m ops (fun e a W => e = .normal ∧ Q .normal a W) (Wl ds w lS Φ) fuel listed a' W') (fun e a W => e = .normal ∧ Q .normal a W) .normal a W := by
  subst hl; exact ⟨(hS.wl (keepB_sub _ _)).less hp, h⟩
theorem anyh_done {listed : Array Bool} (hr : Region.ready .any ops listed = []) (h : Q .normal a W) : ∀ fuel, AnyH P m ops (fun e a W => e = .normal ∧ Q .normal a W) S fuel listed a W
  | 0 => ⟨hr, rfl, h⟩
  | _ + 1 => ⟨fun _ => ⟨rfl, h⟩, by rw [hr]; simp⟩
end
end Go.Proofs.YtdnodlgebpnfoaaGreat
namespace Go.Proofs.YtdnodlgebpnfoaaGreat
open Go Go.RowKit Go.Shelf Sw
structure Kp (S : Nat → Prop) (A B : World) : Prop where
  os : B.os = A.os
  tape : B.tape = A.tape
  output : B.output = A.output
  size : A.heap.size ≤ B.heap.size
  cells : ∀ (k : Nat) (o : Obj), A.heap[k]? = some o → o.isCells = true → ¬ S k → B.heap[k]? = some o
theorem Kp.trans {S : Nat → Prop} {A B C : World} (h : Kp S A B) (h' : Kp S B C) : Kp S A C :=
  ⟨h'.os.trans h.os, h'.tape.trans h.tape, h'.output.trans h.output, Nat.le_trans h.size h'.size, fun k o hk ho hn => h'.cells k o (h.cells k o hk ho hn) ho hn⟩
theorem Kp.refl (S : Nat → Prop) (A : World) : Kp S A A := ⟨rfl, rfl, rfl, Nat.le_refl _, fun _ _ h _ _ => h⟩
theorem Kp.below {S : Nat → Prop} {A B : World} (h : Below A.heap.size A B) : Kp S A B :=
  ⟨h.os, h.tape, h.output, h.size, fun k o hk _ _ => by rw [h.block k (Array.getElem?_eq_some_iff.1 hk).1]; exact hk⟩
theorem Kp.grown {S : Nat → Prop} {A B : World} {row : Option Nat} (h : A.grownBy B row) (hr : ∀ r, row = some r → ∃ o : Obj, A.heap[r]? = some o ∧ o.isCells = false) : Kp S A B :=
  ⟨h.os, h.tape, h.output, h.size, fun k o hk hc _ => by
    rw [h.block k (Array.getElem?_eq_some_iff.1 hk).1 (fun e => ?_)]
    · exact hk
    · obtain ⟨o', ho', hc'⟩ := hr k e.symm
      rw [hk] at ho'; cases ho'; rw [hc] at hc'; cases hc'⟩
theorem Kp.cell {S : Nat → Prop} {A B : World} (h : Kp S A B) {p : Addr} {v : Value} (hv : A.cell? p = some v) (hn : ¬ S p.block) : B.cell? p = some v := by
  obtain ⟨o, ho, hc⟩ := cells_of_cell hv
  have := h.cells _ _ ho hc hn
  exact cell_same hv (by rw [this, ho])
theorem Kp.cellsAt {S : Nat → Prop} {A B : World} (h : Kp S A B) {p : Addr} {cs : List Value} (hv : CellsAt A p cs) (hn : ¬ S p.block) : CellsAt B p cs := fun i u hu => h.cell (hv i u hu) (by rw [add_block]; exact hn)
theorem Sl.keepC {α : Type} {d : Kd α} {F : Nat → Prop} {W W' : World} {s : SV} {xs : List α} (h : Sl d F W s xs) (hR : ∀ x cs, d.R F W x cs → d.R F W' x cs) (hc : ∀ p v, F p.block → W.cell? p = some v → W'.cell? p = some v) : Sl d F W' s xs := by
  refine ⟨h.1, h.2.1, fun j hj => ?_⟩
  obtain ⟨ad, cs, h1, h2, h3, h4⟩ := h.2.2 j hj
  exact ⟨ad, cs, h1, h2, hR _ _ h3, fun i u hu => hc _ _ (by rw [add_block]; exact h2) (h4 i u hu)⟩
theorem Sl.kpInt {F S : Nat → Prop} {W W' : World} {s : SV} {xs : List Int} (h : Sl kInt F W s xs) (hk : Kp S W W') (hn : ∀ k, F k → ¬ S k) : Sl kInt F W' s xs := h.keepC (fun _ _ h => h) fun _ _ hp hv => hk.cell hv (hn _ hp)
theorem Sl.kpRow {F S : Nat → Prop} {W W' : World} {s : SV} {xs : List (List Int)} (h : Sl kRow F W s xs) (hk : Kp S W W') (hn : ∀ k, F k → ¬ S k) : Sl kRow F W' s xs :=
  h.keepC (fun _ _ ⟨s', e, h'⟩ => ⟨s', e, h'.kpInt hk hn⟩) fun _ _ hp hv => hk.cell hv (hn _ hp)
theorem TabR.kp {F S : Nat → Prop} {W W' : World} {V : TV} {t : Tab} (h : TabR F W V t) (hk : Kp S W W') (hn : ∀ k, F k → ¬ S k) : TabR F W' V t := ⟨h.1.kpInt hk hn, h.2.1.kpInt hk hn, h.2.2.kpRow hk hn⟩
theorem Sl.deep {α : Type} {d : Kd α} {F : Nat → Prop} {W : World} {s : SV} {xs : List α} (h : Sl d F W s xs) (h0 : 0 < d.sz) : Sl d (fun k => F k ∧ k < W.heap.size) W s xs := by
  refine ⟨h.1, h.2.1, fun j hj => ?_⟩
  obtain ⟨ad, cs, h1, h2, h3, h4⟩ := h.2.2 j hj
  have hl := d.len h3
  have hc := h4 0 (cs[0]'(by omega)) (by simp)
  have hlt := cell_lt hc
  rw [add_block] at hlt
  exact ⟨ad, cs, h1, ⟨h2, hlt⟩, d.wide (fun k hk hlt => ⟨hk, hlt⟩) h3, h4⟩
theorem TabR.deep {F : Nat → Prop} {W : World} {V : TV} {t : Tab} (h : TabR F W V t) : TabR (fun k => F k ∧ k < W.heap.size) W V t := ⟨h.1.deep (by decide), h.2.1.deep (by decide), h.2.2.deep (by decide)⟩
def nums (l : List Blk) (k : Nat) : Prop := ∃ B ∈ l, k = B.b
structure Tr (S : Nat → Prop) (A B : World) : Prop where
  kp : Kp S A B
  other : ∀ (k : Nat) (o : Obj), A.heap[k]? = some o → o.isCells = false → B.heap[k]? = some o
section
variable {P : Program} {r : Option Nat} {m : Nat} {ops : Array Oper} {Q : Exit → Act → World → Prop} {rest : List Oper} {o : Oper}
  {ds : List Nat} {w W W' : World} {n d : Nat} {a : Act} {κ : KV} {l l1 l2 : List Blk} {Φ : World → Prop} {x y c : Operand} {v u : Value} {ty T T2 E : TypeId} {pos : String} {af : Array Edge} {g : Option (Nat × Bool)}
def Fr (n : Nat) (a : Act) (κ : KV) : Prop := a.tmps.size = n ∧ a.defers = [] ∧ ∀ t v, lk κ t = some v → a.tmps.getD t undef = v
structure Ws (w W : World) (l : List Blk) : Prop where
  below : Below w.heap.size w W
  blk : ∀ b ∈ l, W.heap[b.b]? = some (.cells b.cs.toArray b.T (0, 0))
  old : ∀ b ∈ l, w.heap.size ≤ b.b
  dist : l.Pairwise (fun x y => x.b ≠ y.b)
theorem St.ws (h : St ds w W n a κ l Φ) : Ws w W l := ⟨h.below, h.blk, h.old, h.dist⟩
theorem Ws.kp {l : List Blk} (h : Ws w W l) (hb : Below w.heap.size w W') (hc : ∀ (k : Nat) (o : Obj), W.heap[k]? = some o → o.isCells = true → W'.heap[k]? = some o) : Ws w W' l :=
  ⟨hb, fun b hm => hc _ _ (h.blk b hm) rfl, h.old, h.dist⟩
theorem off_tr {l l' : List Blk} (hl : ∀ B ∈ l', ∃ B' ∈ l, B.b = B'.b) (hb : ∀ b ∈ l', ∃ o : Obj, W.heap[b.b]? = some o ∧ o.isCells = true) (h : Off l' W W') (hz : W.heap.size ≤ W'.heap.size) : Tr (nums l) W W' := by
  refine ⟨⟨h.os, h.tape, h.output, hz, fun k o hk hc hn => ?_⟩, fun k o hk hc => ?_⟩
  · rw [h.same k (Array.getElem?_eq_some_iff.1 hk).1 (fun b hm e => hn ?_)]
    · exact hk
    · obtain ⟨B', h1, h2⟩ := hl b hm
      exact ⟨B', h1, by rw [e, h2]⟩
  · rw [h.same k (Array.getElem?_eq_some_iff.1 hk).1 (fun b hm e => ?_)]
    · exact hk
    · obtain ⟨o', h1, h2⟩ := hb b hm
      rw [e, h1] at hk; cases hk; rw [hc] at h2; cases h2
theorem st_range {α σ : Type} {gop : Operand} {p : Tmp} {assign body : Code} (hS : St [] w W n a κ l Φ) (h1 : 1 ≤ m) {gf : Nat} {lb : Array Value} (hg : ev κ gop = some (.func (.func gf) #[] lb)) (hf : Enters P gf)
    {enc : α → Value} {Sx : List α → Prop} {N : Nat} (hseq : SeqStopsK Fence.wide (m - 1) P gf lb (fun x => #[enc x]) (Kp (nums l)) Sx (fun _ => True) N W) (hp : Nat.blt p n = true)
    (lf : σ → List Blk) (s0 : σ) (hl0 : lf s0 = l) (hlf : ∀ s, ∀ B ∈ lf s, ∃ B' ∈ l, B.b = B'.b) (φ : List α → σ → Prop) (hφ0 : φ [] s0)
    (ΦI : World → Prop) (hΦ0 : ΦI W) (hcl : ∀ A B, ΦI A → Kp (nums l) A B → ΦI B) (κx : Nat → α → KV) (cx : α → List Value)
    (hassign : ∀ r x W1 a1, St [] W1 W1 n a1 ((p, enc x) :: κ) [] (fun _ => True) → ∀ K : Act → World → Prop, (∀ a2 W2 b, W1.heap.size ≤ b → (∀ t v, lk (κx b x ++ κ) t = some v → a2.tmps.getD t undef = v) → a2.tmps.size = n → a2.defers = [] → Below W1.heap.size W1 W2 → CellsAt W2 ⟨b, 0, none⟩ (cx x) → K a2 W2) →
      assign.wpIn (Fw (some r)) (m - 1 - 1) P (Exit.then K (fun _ _ _ => False)) a1 W1)
    (hbody : ∀ r pre x s W1 a1 b, φ pre s → pre.length < N → St [] w W1 n a1 (κx b x ++ κ) (lf s) (fun W => (ΦI W ∧ Tr (nums l) W1 W) ∧ CellsAt W ⟨b, 0, none⟩ (cx x)) →
      body.wpIn (Fw (some r)) (m - 1 - 1) P (fun e a' W' => e = .normal ∧ ∃ s' κ' le, φ (pre ++ [x]) s' ∧ St [] w W' n a' κ' (le ++ lf s') (fun W => (ΦI W ∧ Tr (nums l) W1 W) ∧ CellsAt W ⟨b, 0, none⟩ (cx x))) a1 W1)
    (hend : ∀ D xs s W2 a2, Sx xs → φ xs s → St [D] w W2 n a2 κ (lf s) ΦI → Q .normal a2 W2) : (Code.rangeFunc gop #[p] assign body).wpIn (Fw none) m P Q a W := by
  have hwW := hS.below.size
  have hΦ1 : ∀ A B, ΦI A → Below A.heap.size A B → ΦI B := fun A B h hb => hcl A B h (Kp.below hb)
  let I : List α → World → Prop := fun pre W1 => ∃ s, φ pre s ∧ Ws w W1 (lf s) ∧ ΦI W1 ∧ W.heap.size ≤ W1.heap.size
  let Ax : α → Act → World → Prop := fun x a' W1 => ∃ b, Fr n a' (κx b x ++ κ) ∧ CellsAt W1 ⟨b, 0, none⟩ (cx x) ∧ W.heap.size ≤ b
  have hI : OwnFrom W.heap.size I := by
    rintro pre A B row ⟨s, h2, h3, h4, h5⟩ hgr hrow
    refine ⟨s, h2, ⟨⟨hgr.os.trans h3.below.os, hgr.tape.trans h3.below.tape, hgr.output.trans h3.below.output, Nat.le_trans h3.below.size hgr.size, fun k hk => ?_⟩, fun b hm => ?_, h3.old, h3.dist⟩, hcl _ _ h4 (Kp.grown hgr fun r e => (hrow r e).2), Nat.le_trans h5 hgr.size⟩
    · rw [hgr.block k (Nat.lt_of_lt_of_le hk h3.below.size) (fun e => ?_), h3.below.block k hk]
      have := (hrow k e.symm).1; omega
    · exact (Kp.grown (S := fun _ => False) hgr fun r e => (hrow r e).2).cells _ _ (h3.blk b hm) rfl (fun h => h)
  have hAx : ∀ x a', OwnFrom W.heap.size (fun (_ : Unit) W1 => Ax x a' W1) := by
    rintro x a' _ A B row ⟨b, h2, h3, h4⟩ hgr hrow
    exact ⟨b, h2, (Kp.grown (S := fun _ => False) hgr fun r e => (hrow r e).2).cellsAt h3 (fun h => h), h4⟩
  refine wpIn_rangeFunc_ownH (F := Fw none) rfl h1 (hS.ev hg) trivial hf hseq Kp.trans ?_ (Below.refl _ _) (fun _ => rfl) I (fun _ _ _ => False) hI (fun _ _ _ _ _ h => h.elim) ⟨s0, hφ0, by rw [hl0]; exact hS.ws, hΦ0, Nat.le_refl _⟩ Ax hAx ?_ ?_ ?_ ?_
  · intro A k o o' hk ho hc _
    exact Kp.grown (grownBy_putObj' A k o') (fun r e => by cases e; exact ⟨o, ho, hc⟩)
  · rintro r pre x W1 K ⟨s, h2, h3, h4, h5⟩ hK
    refine hassign r x W1 _ ?_ K ?_
    · have hsz : (a.tmps.setIfInBounds p (enc x)).size = n := by simpa using hS.size
      refine ⟨by simpa using hS.size, ⟨rfl, fun D hD => by cases hD⟩, ?_, Below.refl _ _, fun b hb => (by cases hb), fun b hb => (by cases hb), List.Pairwise.nil, fun _ _ _ => trivial⟩
      have := (hS.put hp (enc x)).get
      intro t v ht
      simpa [Act.put] using this t v ht
    · intro a2 W2 b hb hf2 hz2 hd2 hbl hca
      refine hK a2 W2 ?_ (Kp.below hbl) ⟨s, h2, ⟨h3.below.trans (hbl.mono h3.below.size), fun B hB => ?_, h3.old, h3.dist⟩, hΦ1 _ _ h4 hbl, Nat.le_trans h5 hbl.size⟩ ⟨b, ⟨hz2, hd2, hf2⟩, hca, ?_⟩
      · exact ⟨hbl.size, fun k o _ hk _ => by rw [hbl.block k (Array.getElem?_eq_some_iff.1 hk).1]; exact hk⟩
      · rw [hbl.block _ (Array.getElem?_eq_some_iff.1 (h3.blk B hB)).1]; exact h3.blk B hB
      · exact Nat.le_trans h5 hb
  · rintro r pre x a' W1 hr _ ⟨s, h2, h3, h4, h5'⟩ ⟨b, hfr, hca, hWb⟩ hN
    have hnb : ∀ B ∈ lf s, B.b ≠ b := fun B hB e => by
      obtain ⟨B', hB', e'⟩ := hlf s B hB
      have := hS.lt hB'
      omega
    refine wpIn_mono (hbody r pre x s W1 a' b h2 hN ⟨hfr.1, ⟨hfr.2.1, fun D hD => by cases hD⟩, hfr.2.2, h3.below, h3.blk, h3.old, h3.dist, fun W2 ho hz => ?_⟩) ?_
    · have htr := off_tr (hlf s) (fun b hb => ⟨_, h3.blk b hb, rfl⟩) ho hz
      refine ⟨⟨hcl _ _ h4 htr.kp, htr⟩, htr.kp.cellsAt hca fun hn => ?_⟩
      obtain ⟨B', hB', e'⟩ := hn
      have := hS.lt hB'
      have : b = B'.b := e'
      omega
    · rintro e a2 W2 ⟨rfl, s', κ', le, h5, h6⟩
      have hnow := h6.now
      refine ⟨⟨hnow.1.2.kp.size, fun k o _ hk ho => hnow.1.2.other k o hk ho⟩, hnow.1.2.kp, s', h5, (h6.drop (List.sublist_append_right _ _)).ws, hnow.1.1, Nat.le_trans h5' hnow.1.2.kp.size⟩
  · rintro D xs W2 hD hx ⟨s, h2, h3, h4, _⟩ hk
    refine hend D xs s W2 _ hx h2 ⟨hS.size, ⟨by rw [hS.defers.1]; rfl, fun D' hD' => ?_⟩, hS.get, h3.below, h3.blk, h3.old, h3.dist, fun W3 ho hz => ?_⟩
    · rw [List.mem_singleton.1 hD']; exact ⟨by omega, hk⟩
    · exact hcl _ _ h4 (off_tr (hlf s) (fun b hb => ⟨_, h3.blk b hb, rfl⟩) ho hz).kp
  · rintro D c pre W2 _ _ hf _
    exact hf.elim
theorem St.rebase (hS : St [] w W n a κ [] Φ) : St [] W W n a κ [] Φ :=
  ⟨hS.size, ⟨hS.defers.1, fun D hD => by cases hD⟩, hS.get, Below.refl _ _, fun b hb => (by cases hb), fun b hb => (by cases hb), List.Pairwise.nil, hS.fact⟩
theorem abides_off {α : Type} {J : List α → World → Prop} {B : Nat} (hJ : AbidesFrom B J) {pre : List α} (h : J pre W) : ∀ W', Off [] W W' → W.heap.size ≤ W'.heap.size → J pre W' := fun W' ho hz =>
  hJ pre W W' none h ⟨ho.os, ho.tape, ho.output, hz, fun k hk _ => ho.same k hk (fun b hb => by cases hb)⟩ (fun r e => by cases e)
def Yd {α : Type} (P : Program) (l : Nat) (enc : α → Value) (S : Nat → Prop) (J Jx : List α → World → Prop) (N : Nat) : Prop :=
  ∀ m pre x W1, J pre W1 → pre.length < N → YieldAt Fence.wide m P l #[enc x] W1 fun e W' =>
    (e = .returned (.bool true) ∧ J (pre ++ [x]) W' ∧ Kp S W1 W') ∨ (e = .returned (.bool false) ∧ Jx (pre ++ [x]) W')
theorem roundIn_wide {m m' : Nat} {l f : Nat} {tmps : Array Value} {A B : Code} {R : Ending → World → Prop} (h : RoundIn Fence.wide m P l f tmps A B W R) : RoundIn Fence.wide m' P l f tmps A B W R :=
  ⟨h.1, fun c cs _ => h.2 c cs (by simp [Fence.room, Fence.wide])⟩
theorem it_start {α : Type} {f : FuncId} {fn : Func} {cd : Code} {caps : List Value} {enc : α → Value} {S : Nat → Prop} {Sx : List α → Prop} {N nn : Nat} {Mem : World → Prop} (hf : P.funcs[f]? = some fn) (hb : fn.body = some cd) (hn : fn.ntmps = n) (hk : Nat.ble (caps.length + 1) n = true)
    (hM : ∀ A B, Mem A → Kp S A B → Mem B) (h0 : Mem w)
    (h : ∀ (i : Nat) (J Jx : List α → World → Prop) (W : World) (a : Act), (∀ pre A B, J pre A → Off [] A B → A.heap.size ≤ B.heap.size → J pre B) → (∀ pre A B, Jx pre A → Off [] A B → A.heap.size ≤ B.heap.size → Jx pre B) → Yd P i enc S J Jx N →
      St [] W W n a (enumFrom 0 (.func (.yield i) #[] #[] :: caps)) [] (fun W' => J [] W' ∧ Mem W') →
      cd.wpIn (Fw none) 2 P (bodyPost P fn fun e W' => (∃ v, e = .returned v) ∧ ((∃ xs, Sx xs ∧ J xs W') ∨ (∃ pre, True ∧ Jx pre W'))) a W) :
    SeqStopsK Fence.wide nn P f caps.toArray (fun x => #[enc x]) (Kp S) Sx (fun _ => True) N w := by
  intro i J Jx W hbl hJ hJx hY hJ0
  have hwide : Calls P f (#[.func (.yield i) #[] #[]] ++ caps.toArray) W (fun e W' => (∃ v, e = .returned v) ∧ ((∃ xs, Sx xs ∧ J xs W') ∨ (∃ pre, True ∧ Jx pre W'))) := by
    refine callsIn_wide.1 (callsIn_of_wp (F := Fence.wide) (n := 2) hf hb trivial ?_)
    have hM0 : Mem W := hM _ _ h0 ⟨hbl.os, hbl.tape, hbl.output, hbl.size, fun k o hk' _ _ => by rw [hbl.block k (Array.getElem?_eq_some_iff.1 hk').1]; exact hk'⟩
    have ab : ∀ {J : List α → World → Prop}, AbidesFrom W.heap.size J → ∀ pre A B, J pre A → Off [] A B → A.heap.size ≤ B.heap.size → J pre B := fun hJ pre A B h ho hz => abides_off hJ h B ho hz
    refine h i J Jx W _ (ab hJ) (ab hJx) (fun m' pre x W1 h1 h2 => ?_) ⟨?_, ⟨rfl, fun D hD => by cases hD⟩, ?_, Below.refl _ _, fun b hb => (by cases hb), fun b hb => (by cases hb), List.Pairwise.nil, fun W' ho hz => ⟨abides_off hJ hJ0 W' ho hz, hM _ _ hM0 ?_⟩⟩
    · obtain ⟨fn', tm, A, B, h3, h4⟩ := hY pre x W1 h1 h2
      exact ⟨fn', tm, A, B, h3, roundIn_wide h4⟩
    · have := Nat.ble_eq.mp hk
      simp [hn]; omega
    · intro t v ht
      obtain ⟨_, h2⟩ := lk_enum (.func (.yield i) #[] #[] :: caps) 0 t v ht
      have h3 : t < (Value.func (.yield i) #[] #[] :: caps).length := by
        rcases Nat.lt_or_ge t (Value.func (.yield i) #[] #[] :: caps).length with h | h
        · exact h
        · rw [List.getElem?_eq_none (by omega)] at h2; cases h2
      simp only [Array.getD_eq_getD_getElem?]
      rw [Array.getElem?_append_left (by simp at h3 ⊢; omega)]
      rw [Nat.sub_zero] at h2
      have e : (#[Value.func (.yield i) #[] #[]] ++ caps.toArray : Array Value) = (Value.func (.yield i) #[] #[] :: caps).toArray := by simp
      rw [e, List.getElem?_toArray, h2]; rfl
    · exact ⟨ho.os, ho.tape, ho.output, hz, fun k o hk' _ _ => by rw [ho.same k (Array.getElem?_eq_some_iff.1 hk').1 (fun b hb => by cases hb)]; exact hk'⟩
  exact callsIn_wide.2 hwide
theorem st_yield {α : Type} {i N : Nat} {t : Tmp} {args : Array Operand} {enc : α → Value} {S : Nat → Prop} {J Jx : List α → World → Prop} {Ψ : World → Prop} {pre : List α} {z : α} {tys : Array TypeId} (hS : St [] w W n a κ [] Φ) (hΦ : ∀ W, Φ W → J pre W ∧ Ψ W)
    (hJ : ∀ pre A B, J pre A → Off [] A B → A.heap.size ≤ B.heap.size → J pre B) (hJx : ∀ pre A B, Jx pre A → Off [] A B → A.heap.size ≤ B.heap.size → Jx pre B) (hcl : ∀ A B, Ψ A → Kp S A B → Ψ B) (hY : Yd P i enc S J Jx N) (hN : pre.length < N)
    (hw : Region.wanted ⟨some d, .call { callee := .value (.tmp t), args := args, argTypes := tys }, ty, pos, af, g⟩ (yielded ops a.tmps) = true) (hd : Nat.blt d n = true)
    (ht : lk κ t = some (.func (.yield i) #[] #[])) (hx : evs κ args.toList = some [enc z])
    (K : ∀ W' a, St [] W' W' n a ((d, .bool true) :: κ) [] (fun W => J (pre ++ [z]) W ∧ Ψ W) → wpListIn (Fw r) m P ops Q rest a W')
    (Kx : ∀ W' a, St [] W' W' n a ((d, .bool false) :: κ) [] (fun W => Jx (pre ++ [z]) W) → wpListIn (Fw r) m P ops Q rest a W') :
    wpListIn (Fw r) m P ops Q (⟨some d, .call { callee := .value (.tmp t), args := args, argTypes := tys }, ty, pos, af, g⟩ :: rest) a W := by
  obtain ⟨fn, tm, A, B, h1, h2⟩ := hY (m - 1) pre z W (hΦ _ hS.now).1 hN
  have h3 : args.map a.eval = #[enc z] := by
    have := hS.evs hx
    rw [← Array.toList_map] at this
    exact congrArg List.toArray this
  have h4 : a.eval (.tmp t) = .func (.yield i) #[] #[] := hS.ev ht
  have hrun : (execOp a.eval ⟨some d, .call { callee := .value (.tmp t), args := args, argTypes := tys }, ty, pos, af, g⟩).run P W = .ok (.round i fn tm A B) W := by
    simp only [execOp, resolve, h4, Deferred.ofValue]
    simp [invoke, h3, h1]
  unfold wpListIn
  rw [if_pos hw]
  refine ⟨fun _ _ => trivial, ?_⟩
  rw [Oper.semAt_eq _ _ _ (by simp), hrun]
  have hkp : ∀ {A B : World}, Off [] A B → A.heap.size ≤ B.heap.size → Kp S A B := fun ho hz => ⟨ho.os, ho.tape, ho.output, hz, fun k o hk' _ _ => by rw [ho.same k (Array.getElem?_eq_some_iff.1 hk').1 (fun b hb => by cases hb)]; exact hk'⟩
  have key : ∀ (e : Ending) (W' : World), ((e = .returned (.bool true) ∧ J (pre ++ [z]) W' ∧ Kp S W W') ∨ (e = .returned (.bool false) ∧ Jx (pre ++ [z]) W')) → (match e with
      | .returned v => wpListIn (Fw r) m P ops Q rest (a.put (some d) v) W'
      | .panicked chain => Q (.panic chain) a W'
      | .outgrown => LetsOut Q) := by
    rintro e W' (⟨rfl, h5, h6⟩ | ⟨rfl, h5⟩)
    · refine K W' _ ?_
      have hp := hS.put hd (.bool true)
      exact ⟨hp.size, ⟨hp.defers.1, fun D hD => by cases hD⟩, hp.get, Below.refl _ _, fun b hb => (by cases hb), fun b hb => (by cases hb), List.Pairwise.nil, fun W2 ho hz => ⟨hJ _ _ _ h5 ho hz, hcl _ _ (hcl _ _ (hΦ _ hS.now).2 h6) (hkp ho hz)⟩⟩
    · refine Kx W' _ ?_
      have hp := hS.put hd (.bool false)
      exact ⟨hp.size, ⟨hp.defers.1, fun D hD => by cases hD⟩, hp.get, Below.refl _ _, fun b hb => (by cases hb), fun b hb => (by cases hb), List.Pairwise.nil, fun W2 ho hz => hJx _ _ _ h5 ho hz⟩
  cases r with
  | none => exact ⟨fun h => by simp [Fw] at h, RoundIn.mono h2 (fun e W' he => by have := key e W' he; cases e <;> exact this)⟩
  | some r0 => exact ⟨fun h => by simp [Fw] at h, RoundIn.mono (show RoundIn (Fw (some r0)) (m - 1) P i fn tm A B W _ from h2) (fun e W' he => by have := key e W' he; cases e <;> exact this)⟩
variable {A : Code}
theorem st_loopI {α β : Type} {J : List β → World → Prop} {Ψ : World → Prop} {pre0 : List β} (κv : α → KV) (κ0 : KV) (seq : α → List β) (φ : α → Prop) (μ : α → Nat) (x0 : α) (hS : St [] w W n a κ [] Φ) (hκ : Sub (κv x0 ++ κ0) κ) (h0 : φ x0) (e0 : pre0 = seq x0) (hΦ0 : ∀ W, Φ W → J pre0 W ∧ Ψ W)
    (body : ∀ x W a, φ x → St [] W W n a (κv x ++ κ0) [] (fun W => J (seq x) W ∧ Ψ W) → A.wpIn (Fw r) m P (Exit.then (fun a' W' => ∃ x', (φ x' ∧ μ x' < μ x) ∧ St [] W' W' n a' (κv x' ++ κ0) [] (fun W => J (seq x') W ∧ Ψ W)) Q) a W) : (Code.loop A).wpIn (Fw r) m P Q a W := by
  classical
  subst e0
  obtain ⟨ΦI, hΦI⟩ : ∃ ΦI : α → World → Prop, ΦI = fun x W => J (seq x) W ∧ Ψ W := ⟨_, rfl⟩
  have hΦ0 : ∀ W, Φ W → ΦI x0 W := by rw [hΦI]; exact hΦ0
  have body : ∀ x W a, φ x → St [] W W n a (κv x ++ κ0) [] (ΦI x) → A.wpIn (Fw r) m P (Exit.then (fun a' W' => ∃ x', (φ x' ∧ μ x' < μ x) ∧ St [] W' W' n a' (κv x' ++ κ0) [] (ΦI x')) Q) a W := by rw [hΦI]; exact body
  have mn : ∀ a W, (∃ k x, φ x ∧ St [] W W n a (κv x ++ κ0) [] (ΦI x) ∧ μ x = k) → _ := fun a W h => exists_min (fun k => ∃ x, φ x ∧ St [] W W n a (κv x ++ κ0) [] (ΦI x) ∧ μ x = k) h
  refine wpIn_loop (fun a W => ∃ x, φ x ∧ St [] W W n a (κv x ++ κ0) [] (ΦI x)) (fun a W => if h : ∃ k x, φ x ∧ St [] W W n a (κv x ++ κ0) [] (ΦI x) ∧ μ x = k then Classical.choose (mn a W h) else 0) ⟨x0, h0, ((hS.sub hκ).less hΦ0).rebase⟩ ?_
  rintro a W ⟨x, hφ, hS⟩
  have hex : ∃ k x, φ x ∧ St [] W W n a (κv x ++ κ0) [] (ΦI x) ∧ μ x = k := ⟨_, x, hφ, hS, rfl⟩
  obtain ⟨⟨x1, hφ1, hS1, hμ1⟩, _⟩ := Classical.choose_spec (mn a W hex)
  refine wpIn_mono (body x1 W a hφ1 hS1) ?_
  intro e a' W' hq
  cases e with
  | normal =>
    obtain ⟨x', ⟨hφ', hlt⟩, hS'⟩ := hq
    refine ⟨⟨x', hφ', hS'⟩, ?_⟩
    have hex' : ∃ k x, φ x ∧ St [] W' W' n a' (κv x ++ κ0) [] (ΦI x) ∧ μ x = k := ⟨_, x', hφ', hS', rfl⟩
    simp only [hex, hex', dif_pos]
    exact Nat.lt_of_le_of_lt ((Classical.choose_spec (mn a' W' hex')).2 _ ⟨x', hφ', hS', rfl⟩) (by rw [← hμ1]; exact hlt)
  | exit => exact hq
  | goto => exact hq
  | ret => exact hq
  | panic => exact hq
  | outgrown => exact hq
theorem St.doneI {fn : Func} {R : Ending → World → Prop} (hS : St [] w W n a κ l Φ) (hr : (results fn a.tmps).run P W = .ok v W) (hR : R (.returned v) W) : bodyPost P fn R .ret a W := ⟨hS.defers.1, v, hr, hR⟩
theorem St.doneIn {fn : Func} {R : Ending → World → Prop} (hS : St [] w W n a κ l Φ) (hr : (results fn a.tmps).run P W = .ok v W) (hR : R (.returned v) W) : bodyPost P fn R .normal a W := ⟨hS.defers.1, v, hr, hR⟩
theorem St.doneM {fn : Func} {D mm : Nat} {R : Value → World → Prop} (hS : St [D] w W n a κ l Φ) (hr : ∀ W' a', a'.tmps = a.tmps → St [] w W' n a' κ l (fun _ => True) → (results fn a'.tmps).run P W' = .ok v W')
    (hR : ∀ W', Kp (fun _ => False) W W' → W'.heap.size = W.heap.size → R v W') : bodyPostM (Fw none) mm P fn (fun e W' => ∃ v, e = .returned v ∧ Below w.heap.size w W' ∧ R v W') .ret a W := by
  obtain ⟨h1, h2⟩ := hS.defers
  obtain ⟨h3, h4⟩ := h2 D (by simp)
  have hk : Kp (fun _ => False) W (W.putObj D (.deferred none)) := Kp.grown (grownBy_putObj' W D _) (fun r e => by cases e; exact ⟨_, h4, rfl⟩)
  have hb : Below w.heap.size w (W.putObj D (.deferred none)) := hS.below.trans ⟨rfl, rfl, rfl, hk.size, fun k hk' => by rw [World.putObj_heap_other (by omega)]⟩
  have hS' : St [] w (W.putObj D (.deferred none)) n { a with defers := [] } κ l (fun _ => True) := ⟨hS.size, ⟨rfl, fun D hD => by cases hD⟩, hS.get, hb, fun b hm => hk.cells _ _ (hS.blk b hm) rfl (fun h => h), hS.old, hS.dist, fun _ _ _ => trivial⟩
  show LeavesInM (Fw none) mm P fn a.tmps _ a.defers .returning W
  rw [h1]
  exact ⟨by simp, .inl ⟨D, _, rfl, run_takeDeferred h4, v, hr _ { a with defers := [] } rfl hS', v, rfl, hb, hR _ hk (by simp [World.putObj])⟩⟩
theorem ret_startM {f : FuncId} {fn : Func} {cd : Code} {args : List Value} {R : Value → World → Prop} (hf : P.funcs[f]? = some fn) (hb : fn.body = some cd) (hn : fn.ntmps = n) (hk : Nat.ble args.length n = true)
    (h : ∀ a, St [] w w n a (enumFrom 0 args) [] (fun _ => True) → cd.wpIn (Fw none) 2 P (bodyPostM (Fw none) 2 P fn fun e W' => ∃ v, e = .returned v ∧ Below w.heap.size w W' ∧ R v W') a w) : Ret P f args w R := by
  refine callsIn_wide.1 (callsIn_of_wp_marks (F := Fence.wide) (n := 2) hf hb trivial ?_)
  refine h _ ⟨?_, ⟨rfl, fun D hD => (by cases hD)⟩, ?_, Below.refl _ _, fun b hb => (by cases hb), fun b hb => (by cases hb), List.Pairwise.nil, fun _ _ _ => trivial⟩
  · have := Nat.ble_eq.mp hk
    simp [hn]; omega
  · intro t v ht
    obtain ⟨_, h2⟩ := lk_enum args 0 t v ht
    have h3 : t < args.length := by
      rcases Nat.lt_or_ge t args.length with h | h
      · exact h
      · rw [List.getElem?_eq_none (by omega)] at h2; cases h2
    simp only [Array.getD_eq_getD_getElem?]
    rw [Array.getElem?_append_left (by simpa using h3)]
    simp only [List.getElem?_toArray]
    rw [Nat.sub_zero] at h2
    rw [h2]; rfl
end
end Go.Proofs.YtdnodlgebpnfoaaGreat
namespace Go.Proofs.YtdnodlgebpnfoaaGreat
open Go Go.RowKit Go.Shelf Sw
structure CMem (F : Nat → Prop) (Vt : TV) (t : Tab) (p q : Span) (p1 p2 p3 : Addr) (m0 : Nat) (W : World) : Prop where
  c1 : CellsAt W p1 (tabC Vt t)
  c2 : CellsAt W p2 (spanC p)
  c3 : CellsAt W p3 (spanC q)
  tab : TabR F W Vt t
  size : m0 ≤ W.heap.size
theorem CMem.kp {F S : Nat → Prop} {Vt : TV} {t : Tab} {p q : Span} {p1 p2 p3 : Addr} {m0 : Nat} {A B : World} (h : CMem F Vt t p q p1 p2 p3 m0 A) (hk : Kp S A B) (hF : ∀ k, F k → ¬ S k) (h1 : ¬ S p1.block) (h2 : ¬ S p2.block) (h3 : ¬ S p3.block) : CMem F Vt t p q p1 p2 p3 m0 B :=
  ⟨hk.cellsAt h.c1 h1, hk.cellsAt h.c2 h2, hk.cellsAt h.c3 h3, h.tab.kp hk hF, Nat.le_trans h.size hk.size⟩
def pointV (t : Tab) (c : Int × Int) : Value := .agg #[.int .i64 c.1, .int .i64 c.2, .int .i64 (fracAt t c.1 c.2).lo, .int .i64 (fracAt t c.1 c.2).hi]
def ptAt (t : Tab) (p q : Span) (c : Nat × Nat) : Int × Int := (ix (stops t.X p.lo p.hi) (min c.1 ((stops t.X p.lo p.hi).length - 1)), ix (stops t.Y q.lo q.hi) (min c.2 ((stops t.Y q.lo q.hi).length - 1)))
theorem ptAt_of {t : Tab} {p q : Span} {i j : Nat} (hi : i < (stops t.X p.lo p.hi).length) (hj : j < (stops t.Y q.lo q.hi).length) : ptAt t p q (i, j) = (ix (stops t.X p.lo p.hi) i, ix (stops t.Y q.lo q.hi) j) := by
  unfold ptAt
  rw [Nat.min_eq_left (by dsimp only; omega), Nat.min_eq_left (by dsimp only; omega)]
def upTo (ny i j : Nat) : List (Nat × Nat) := ((List.range i).flatMap fun a => (List.range ny).map fun b => (a, b)) ++ (List.range j).map fun b => (i, b)
theorem upTo_next (ny i j : Nat) : upTo ny i (j + 1) = upTo ny i j ++ [(i, j)] := by
  unfold upTo
  rw [List.range_succ, List.map_append, ← List.append_assoc]; rfl
theorem upTo_row {ny i j : Nat} (hj : j = ny) : upTo ny (i + 1) 0 = upTo ny i j := by
  unfold upTo
  subst hj
  rw [List.range_succ, List.flatMap_append]; simp
theorem upTo_len {ny i j : Nat} (hx : i ≤ 14) (hj : j ≤ 14) (hy : ny ≤ 14) : (upTo ny i j).length ≤ 400 := by
  unfold upTo
  rw [List.length_append, List.length_flatMap]
  have h1 : ∀ zs : List Nat, (zs.map fun _ => ny).sum = zs.length * ny := by
    intro zs; induction zs with
    | nil => simp
    | cons z zs ih => simp [ih, Nat.add_mul]; omega
  simp only [List.length_map, h1, List.length_range]
  have := Nat.mul_le_mul hx hy
  omega
theorem mem_upTo {nx ny : Nat} {c : Nat × Nat} : c ∈ upTo ny nx 0 ↔ c.1 < nx ∧ c.2 < ny := by
  unfold upTo
  obtain ⟨a, b⟩ := c
  simp
set_option maxHeartbeats 2000000 in
set_option maxRecDepth 100000 in
theorem corners_it {S F : Nat → Prop} {Vt : TV} {t : Tab} {p q : Span} {p1 p2 p3 : Addr} {w : World} {nn : Nat} (hok : tabOk t = true) (hpok : p.ok = true) (hqok : q.ok = true) (hlies : liesT t p q = true) (c1 : CellsAt w p1 (tabC Vt t)) (c2 : CellsAt w p2 (spanC p)) (c3 : CellsAt w p3 (spanC q)) (ht : TabR F w Vt t)
    (hF : ∀ k, F k → ¬ S k) (h1 : ¬ S p1.block) (h2 : ¬ S p2.block) (h3 : ¬ S p3.block) (hSw : ∀ k, S k → k < w.heap.size) :
    SeqStopsK Fence.wide nn Tryz.prog 232 [.pointer (some p1), .pointer (some p2), .pointer (some p3)].toArray (fun c => #[pointV t (ptAt t p q c)]) (Kp S) (fun xs => xs = upTo (stops t.Y q.lo q.hi).length (stops t.X p.lo p.hi).length 0) (fun _ => True) 1000 w := by
 obtain ⟨hX, hY, hV, hR⟩ := tab_axes hok
 have hp1 := (Span.ok_iff p).1 hpok; have hq1 := (Span.ok_iff q).1 hqok
 simp only [liesT, lies, Bool.and_eq_true, decide_eq_true_eq] at hlies
 have hXm := hX.most; have hYm := hY.most
 have hxs := fun i hi => stops_on (l := t.X) (lo := p.lo) (hi := p.hi) (i := i) hp1.2.1 hlies.1.1 hlies.1.2 hi
 have hys := fun i hi => stops_on (l := t.Y) (lo := q.lo) (hi := q.hi) (i := i) hq1.2.1 hlies.2.1 hlies.2.2 hi
 have hxl := stops_len hXm p.lo p.hi; have hyl := stops_len hYm q.lo q.hi
 have M1 : ∀ W, CMem F Vt t p q p1 p2 p3 w.heap.size W → CellsAt W p1 (tabC Vt t) := fun _ h => h.c1
 have M2 : ∀ W, CMem F Vt t p q p1 p2 p3 w.heap.size W → CellsAt W p2 (spanC p) := fun _ h => h.c2
 have M3 : ∀ W, CMem F Vt t p q p1 p2 p3 w.heap.size W → CellsAt W p3 (spanC q) := fun _ h => h.c3
 have M4 : ∀ W, CMem F Vt t p q p1 p2 p3 w.heap.size W → TabR F W Vt t := fun _ h => h.tab
 refine it_start (n := 39) (Mem := CMem F Vt t p q p1 p2 p3 w.heap.size) Tryz.func232 rfl rfl rfl (fun A B h hk => h.kp hk hF h1 h2 h3) (⟨c1, c2, c3, ht, Nat.le_refl _⟩) (fun i J Jx W a hJ hJx hY hS => ?_)
 refine wpIn_seq ?_
 refine wpIn_region_lit ?_
 refine st_v hS rfl rfl (run_fieldAddrE fe25_0 hS rfl) fun a hS => st_v hS rfl rfl (run_load_cell Tryz.isAgg22 hS rfl (M1 _ hS.now.2 0 _ rfl)) fun a hS => st_v hS rfl rfl (run_load_ext Tryz.isAgg31 Tryz.sizeOf31 hS rfl rfl (M2 _ hS.now.2)) fun a hS => ?_
 have hm0 := (hS.now.2).size
 refine st_call (spans_stops Vt.x t.X p ((fun W hC => (M4 W hC).1) _ hS.now.2) (by omega)) Tryz.call233 hS rfl rfl rfl fun v W a hR hB hlt hS => ?_
 obtain ⟨s0, rfl, hs0⟩ := hR
 have hS := (hS.moreSl hlt hs0).less (fun _ h => (⟨h.1.1, h.1.2, h.2⟩ : _ ∧ _ ∧ _))
 refine st_v hS rfl rfl (run_len_slice Tryz.underlying22 hS rfl) fun a hS => st_v hS rfl rfl (run_move hS rfl) fun a hS => wl_nil ?_
 refine wpIn_block ?_
 refine st_loopI (α := Nat) (fun x => [(14, .int .i64 (((x : Nat) : Int)))]) [(0, _), (1, _), (2, _), (3, _), (12, _), (13, _)] (fun x => upTo (stops t.Y q.lo q.hi).length x 0) (fun x => x ≤ (stops t.X p.lo p.hi).length) (fun x => (stops t.X p.lo p.hi).length - x) (0) hS (Sub.cons rfl (Sub.cons rfl (Sub.cons rfl (Sub.cons rfl (Sub.cons rfl (Sub.cons rfl (Sub.cons rfl Sub.nil))))))) (Nat.zero_le _) (rfl) (fun _ h => h) (fun x W a hφ hS => ?_)
 dsimp only [List.cons_append, List.nil_append] at hS
 refine wpIn_seq ?_
 refine wpIn_region_lit ?_
 refine st_v hS rfl rfl (run_bin hS rfl rfl rfl) fun a hS => wl_nil ?_
 refine wpIn_seq ?_
 refine st_cond hS rfl (fun hc1 => ?_) (fun hc1 => ?_)
 ·
  try simp only [ty] at hc1
  refine wpIn_skip ?_
  refine wpIn_seq ?_
  refine wpIn_block ?_
  refine wpIn_seq ?_
  refine wpIn_region_lit ?_
  obtain ⟨ad1, hA1, hL1⟩ := sl_int (fun _ h => h) hS.now.2.2 (i := ((x : Nat) : Int)) (j := x) (by omega) (by omega)
  refine st_v hS rfl rfl (run_indexAddr Tryz.underlying22 Tryz.sizeOf3 hS rfl rfl hA1 (by omega) (by omega)) fun a hS => st_v hS rfl rfl (run_load_cell Tryz.isAgg3 hS rfl (hL1 _ hS.now.2.2)) fun a hS => st_v hS rfl rfl (run_assign hS rfl) fun a hS => wl_nil ?_
  refine wpIn_seq ?_
  refine wpIn_region_lit ?_
  refine st_v hS rfl rfl (run_fieldAddrE fe25_1 hS rfl) fun a hS => st_v hS rfl rfl (run_load_cell Tryz.isAgg22 hS rfl (M1 _ hS.now.2.1 1 _ rfl)) fun a hS => st_v hS rfl rfl (run_load_ext Tryz.isAgg31 Tryz.sizeOf31 hS rfl rfl (M3 _ hS.now.2.1)) fun a hS => ?_
  have hm2 := (hS.now.2.1).size
  refine st_call (spans_stops Vt.y t.Y q ((fun W hC => (M4 W hC).2.1) _ hS.now.2.1) (by omega)) Tryz.call233 hS rfl rfl rfl fun v W a hR hB hlt hS => ?_
  obtain ⟨s2, rfl, hs2⟩ := hR
  have hS := (hS.moreSl hlt hs2).less (fun _ h => (⟨h.1.1, h.1.2, h.2⟩ : _ ∧ _ ∧ _))
  refine st_v hS rfl rfl (run_len_slice Tryz.underlying22 hS rfl) fun a hS => st_v hS rfl rfl (run_move hS rfl) fun a hS => wl_nil ?_
  refine wpIn_block ?_
  refine st_loopI (α := Nat) (fun y => [(23, .int .i64 (((y : Nat) : Int)))]) [(0, _), (1, _), (2, _), (3, _), (12, _), (13, _), (14, _), (6, _), (21, _), (22, _)] (fun y => upTo (stops t.Y q.lo q.hi).length x y) (fun y => y ≤ (stops t.Y q.lo q.hi).length) (fun y => (stops t.Y q.lo q.hi).length - y) (0) hS (Sub.cons rfl (Sub.cons rfl (Sub.cons rfl (Sub.cons rfl (Sub.cons rfl (Sub.cons rfl (Sub.cons rfl (Sub.cons rfl (Sub.cons rfl (Sub.cons rfl (Sub.cons rfl Sub.nil))))))))))) (Nat.zero_le _) (rfl) (fun _ h => h) (fun y W a hφ hS => ?_)
  dsimp only [List.cons_append, List.nil_append] at hS
  refine wpIn_seq ?_
  refine wpIn_region_lit ?_
  refine st_v hS rfl rfl (run_bin hS rfl rfl rfl) fun a hS => wl_nil ?_
  refine wpIn_seq ?_
  refine st_cond hS rfl (fun hc2 => ?_) (fun hc2 => ?_)
  ·
   try simp only [ty] at hc2
   refine wpIn_skip ?_
   refine wpIn_seq ?_
   refine wpIn_block ?_
   refine wpIn_seq ?_
   refine wpIn_region_lit ?_
   obtain ⟨ad3, hA3, hL3⟩ := sl_int (fun _ h => h) hS.now.2.2 (i := ((y : Nat) : Int)) (j := y) (by omega) (by omega)
   refine st_v hS rfl rfl (run_indexAddr Tryz.underlying22 Tryz.sizeOf3 hS rfl rfl hA3 (by omega) (by omega)) fun a hS => st_v hS rfl rfl (run_load_cell Tryz.isAgg3 hS rfl (hL3 _ hS.now.2.2)) fun a hS => st_v hS rfl rfl (run_assign hS rfl) fun a hS => wl_nil ?_
   refine wpIn_seq ?_
   refine wpIn_region_lit ?_
   refine st_v hS rfl rfl (run_move hS rfl) fun a hS => st_v hS rfl rfl (run_move hS rfl) fun a hS => st_v hS rfl rfl (run_move hS rfl) fun a hS => st_v hS rfl rfl (run_load_ext Tryz.isAgg25 Tryz.sizeOf25 hS rfl rfl (M1 _ hS.now.2.1.1)) fun a hS => st_v hS rfl rfl (run_move hS rfl) fun a hS => st_v hS rfl rfl (run_move hS rfl) fun a hS => st_call (spans_at Vt t (M4 _ hS.now.2.1.1) (by assumption) (by exact hxs _ (by omega)) (by exact hys _ (by omega))) Tryz.call234 hS rfl rfl rfl fun v W a hR hB hlt hS => ?_
   subst hR
   refine st_v hS rfl rfl (run_build (pv := [(0, .int .i64 _), (1, .int .i64 _), (2, .agg #[.int .i64 _, .int .i64 _])]) (fun W => bd162_0_1_2 _ _ _ _ W) hS rfl) fun a hS => ?_
   refine st_yield (pre := upTo (stops t.Y q.lo q.hi).length x y) (z := (x, y)) hS (fun _ h => h) hJ hJx (fun A B h hk => ⟨⟨h.1.1.kp hk hF h1 h2 h3, h.1.2.kpInt hk (fun k hk hs => by have := hSw k hs; omega)⟩, h.2.kpInt hk (fun k hk hs => by have := hSw k hs; omega)⟩) hY (by have := upTo_len (ny := (stops t.Y q.lo q.hi).length) (i := x) (j := y) (by omega) (by omega) hyl; omega) rfl rfl rfl (by rw [ptAt_of (by omega) (by omega)]; rfl) (fun W a hS => ?_) (fun W a hS => ?_)
   ·
    refine st_v hS rfl rfl (run_not hS rfl) fun a hS => wl_nil ?_
    refine st_cond_f hS rfl ?_
    refine wpIn_skip ?_
    refine wpIn_region_lit ?_
    refine st_v hS rfl rfl (run_add (t := ((y + 1 : Nat) : Int)) hS rfl rfl (by omega) (by omega) (by omega)) fun a hS => st_v hS rfl rfl (run_move hS rfl) fun a hS => wl_nil ?_
    refine ⟨y + 1, ⟨by omega, by omega⟩, ((hS.sub (Sub.cons rfl (Sub.cons rfl (Sub.cons rfl (Sub.cons rfl (Sub.cons rfl (Sub.cons rfl (Sub.cons rfl (Sub.cons rfl (Sub.cons rfl (Sub.cons rfl (Sub.cons rfl Sub.nil)))))))))))).less (fun _ h => ?_)).rebase⟩
    rw [upTo_next]; exact h
   ·
    refine st_v hS rfl rfl (run_not hS rfl) fun a hS => wl_nil ?_
    refine st_cond_t hS rfl ?_
    refine wpIn_ret ?_
    repeat (first | refine q_ret ?_ | refine q_block_ret ?_)
    refine hS.doneI (res0 (fn := Tryz.f232)  rfl ) ?_
    exact ⟨⟨_, rfl⟩, .inr ⟨_, trivial, hS.now⟩⟩
  ·
   try simp only [ty] at hc2
   refine wpIn_exit ?_
   refine wpIn_region_lit ?_
   refine st_v hS rfl rfl (run_add (t := ((x + 1 : Nat) : Int)) hS rfl rfl (by omega) (by omega) (by omega)) fun a hS => st_v hS rfl rfl (run_move hS rfl) fun a hS => wl_nil ?_
   refine ⟨x + 1, ⟨by omega, by omega⟩, ((hS.sub (Sub.cons rfl (Sub.cons rfl (Sub.cons rfl (Sub.cons rfl (Sub.cons rfl (Sub.cons rfl (Sub.cons rfl Sub.nil)))))))).less (fun _ h => ?_)).rebase⟩
   rw [upTo_row (by omega : y = (stops t.Y q.lo q.hi).length)]; exact ⟨h.1, h.2.1⟩
 ·
  try simp only [ty] at hc1
  refine wpIn_exit ?_
  repeat (first | refine q_then_x (by simp) ?_ | refine q_block_in ?_ | refine q_block ?_)
  refine hS.doneIn (res0 (fn := Tryz.f232)  rfl ) ?_
  exact ⟨⟨_, rfl⟩, .inl ⟨_, by rw [show x = (stops t.X p.lo p.hi).length by omega], hS.now.1⟩⟩
set_option maxHeartbeats 2000000 in
set_option maxRecDepth 100000 in
theorem spans_corners (Vt : TV) (t : Tab) (p q : Span) {w : World} : Ret Tryz.prog 189 [.agg (tabC Vt t).toArray, .agg (spanC p).toArray, .agg (spanC q).toArray] w (fun v W' => ∃ p1 p2 p3 : Addr, v = .func (.func 232) #[] #[.pointer (some p1), .pointer (some p2), .pointer (some p3)] ∧
    (CellsAt W' p1 (tabC Vt t) ∧ CellsAt W' p2 (spanC p) ∧ CellsAt W' p3 (spanC q)) ∧ w.heap.size ≤ p1.block ∧ w.heap.size ≤ p2.block ∧ w.heap.size ≤ p3.block) := by
 refine ret_start (n := 8) Tryz.func189 rfl rfl rfl (fun a hS => ?_)
 refine wpIn_seq ?_
 refine wpIn_region_lit ?_
 refine st_box_agg hS rfl rfl rfl fun W a b0 hS => st_box_agg hS rfl rfl rfl fun W a b1 hS => st_box_agg hS rfl rfl rfl fun W a b2 hS => st_v hS rfl rfl (run_assign hS rfl) fun a hS => wl_nil ?_
 refine wpIn_seq ?_
 refine wpIn_region_lit ?_
 refine st_v hS rfl rfl (run_makeFunc hS rfl rfl) fun a hS => st_v hS rfl rfl (run_assign hS rfl) fun a hS => wl_nil ?_
 refine wpIn_ret ?_
 repeat (first | refine q_ret ?_ | refine q_block_ret ?_)
 refine hS.done (res1 (fn := Tryz.f189) (r1 := .tmp 6) rfl (rv_tmp hS rfl)) ?_
 exact ⟨⟨b0, 0, none⟩, ⟨b1, 0, none⟩, ⟨b2, 0, none⟩, rfl, ⟨hS.cells (i := 2) rfl _ (Below.refl _ _), hS.cells (i := 1) rfl _ (Below.refl _ _), hS.cells (i := 0) rfl _ (Below.refl _ _)⟩, hS.old _ (nthB_in (i := 2) rfl), hS.old _ (nthB_in (i := 1) rfl), hS.old _ (nthB_in (i := 0) rfl)⟩
structure P4 where
  x : Int
  y : Int
  n : Int
  d : Int
abbrev P4.cs (z : P4) : List Value := [.int .i64 z.x, .int .i64 z.y, .int .i64 z.n, .int .i64 z.d]
def p4 (t : Tab) (p q : Span) (c : Nat × Nat) : P4 := ⟨(ptAt t p q c).1, (ptAt t p q c).2, (fracAt t (ptAt t p q c).1 (ptAt t p q c).2).lo, (fracAt t (ptAt t p q c).1 (ptAt t p q c).2).hi⟩
structure Ext (t : Tab) (p q : Span) (pre : List (Nat × Nat)) (an : Bool) (lo hi : P4) : Prop where
  none : an = false → pre = []
  some : an = true → (∃ c ∈ pre, lo = p4 t p q c) ∧ (∃ c ∈ pre, hi = p4 t p q c) ∧ ∀ c ∈ pre, lo.n * (p4 t p q c).d ≤ (p4 t p q c).n * lo.d ∧ (p4 t p q c).n * hi.d ≤ hi.n * (p4 t p q c).d
theorem le_tr {a b c a' b' c' : Int} (ha : 0 < a') (hb : 0 < b') (hc : 0 < c') (h1 : a * b' ≤ b * a') (h2 : b * c' ≤ c * b') : a * c' ≤ c * a' := by
  have e1 := Int.mul_le_mul_of_nonneg_right h1 (Int.le_of_lt hc)
  have e2 := Int.mul_le_mul_of_nonneg_right h2 (Int.le_of_lt ha)
  have e3 : (a * c') * b' ≤ (c * a') * b' := by
    have f1 : a * c' * b' = a * b' * c' := by grind
    have f2 : b * a' * c' = b * c' * a' := by grind
    have f3 : c * b' * a' = c * a' * b' := by grind
    omega
  exact Int.le_of_mul_le_mul_right e3 hb
theorem Ext.next {t : Tab} {p q : Span} {pre : List (Nat × Nat)} {an : Bool} {lo hi : P4} (h : Ext t p q pre an lo hi) (hd : ∀ c, 0 < (p4 t p q c).d) (c : Nat × Nat) {lo' hi' : P4}
    (h1 : (lo' = p4 t p q c ∧ (an = true → (p4 t p q c).n * lo.d ≤ lo.n * (p4 t p q c).d)) ∨ (an = true ∧ lo' = lo ∧ lo.n * (p4 t p q c).d ≤ (p4 t p q c).n * lo.d))
    (h2 : (hi' = p4 t p q c ∧ (an = true → hi.n * (p4 t p q c).d ≤ (p4 t p q c).n * hi.d)) ∨ (an = true ∧ hi' = hi ∧ (p4 t p q c).n * hi.d ≤ hi.n * (p4 t p q c).d)) : Ext t p q (pre ++ [c]) true lo' hi' := by
  refine ⟨fun h => (by cases h), fun _ => ⟨?_, ?_, fun c' hc' => ?_⟩⟩
  · rcases h1 with ⟨rfl, _⟩ | ⟨ha, rfl, _⟩
    · exact ⟨c, by simp, rfl⟩
    · obtain ⟨c0, h0, e⟩ := (h.some ha).1
      exact ⟨c0, by simp [h0], e⟩
  · rcases h2 with ⟨rfl, _⟩ | ⟨ha, rfl, _⟩
    · exact ⟨c, by simp, rfl⟩
    · obtain ⟨c0, h0, e⟩ := (h.some ha).2.1
      exact ⟨c0, by simp [h0], e⟩
  · have hdl : an = true → 0 < lo.d ∧ 0 < hi.d := fun ha => by
      obtain ⟨c0, _, e0⟩ := (h.some ha).1
      obtain ⟨c1, _, e1⟩ := (h.some ha).2.1
      exact ⟨by rw [e0]; exact hd _, by rw [e1]; exact hd _⟩
    rcases List.mem_append.1 hc' with hc' | hc'
    · have ha : an = true := by
        cases an with
        | true => rfl
        | false => rw [h.none rfl] at hc'; cases hc'
      have h3 := (h.some ha).2.2 c' hc'
      have h4 := hdl ha
      constructor
      · rcases h1 with ⟨rfl, h5⟩ | ⟨_, rfl, _⟩
        · exact le_tr (hd c) h4.1 (hd c') (h5 ha) h3.1
        · exact h3.1
      · rcases h2 with ⟨rfl, h5⟩ | ⟨_, rfl, _⟩
        · exact le_tr (hd c') h4.2 (hd c) h3.2 (h5 ha)
        · exact h3.2
    · rw [List.mem_singleton.1 hc']
      constructor
      · rcases h1 with ⟨rfl, _⟩ | ⟨_, rfl, h5⟩
        · exact Int.le_refl _
        · exact h5
      · rcases h2 with ⟨rfl, _⟩ | ⟨_, rfl, h5⟩
        · exact Int.le_refl _
        · exact h5
theorem p4_bd {t : Tab} {p q : Span} (hok : tabOk t = true) (hpok : p.ok = true) (hqok : q.ok = true) (hlies : liesT t p q = true) (c : Nat × Nat) : (1 ≤ (p4 t p q c).d ∧ (p4 t p q c).d ≤ 100000000) ∧ (-400000000000000 ≤ (p4 t p q c).n ∧ (p4 t p q c).n ≤ 400000000000000) := by
  obtain ⟨hX, hY, hV, hR⟩ := tab_axes hok
  have hp1 := (Span.ok_iff p).1 hpok; have hq1 := (Span.ok_iff q).1 hqok
  simp only [liesT, lies, Bool.and_eq_true, decide_eq_true_eq] at hlies
  have hx1 := stops_pos t.X p.lo p.hi; have hy1 := stops_pos t.Y q.lo q.hi
  have hx := stops_on (l := t.X) (lo := p.lo) (hi := p.hi) (i := min c.1 ((stops t.X p.lo p.hi).length - 1)) hp1.2.1 hlies.1.1 hlies.1.2 (by omega)
  have hy := stops_on (l := t.Y) (lo := q.lo) (hi := q.hi) (i := min c.2 ((stops t.Y q.lo q.hi).length - 1)) hq1.2.1 hlies.2.1 hlies.2.2 (by omega)
  have hp := part4 hok (cellAt_in hX hx.1 hx.2) (cellAt_in hY hy.1 hy.2)
  exact ⟨den_abs hp, num_abs hp⟩
theorem Ext.bd {t : Tab} {p q : Span} {pre : List (Nat × Nat)} {an : Bool} {lo hi : P4} (h : Ext t p q pre an lo hi) (ha : an = true) (hb : ∀ c, (1 ≤ (p4 t p q c).d ∧ (p4 t p q c).d ≤ 100000000) ∧ (-400000000000000 ≤ (p4 t p q c).n ∧ (p4 t p q c).n ≤ 400000000000000)) :
    ((1 ≤ lo.d ∧ lo.d ≤ 100000000) ∧ (-400000000000000 ≤ lo.n ∧ lo.n ≤ 400000000000000)) ∧ (1 ≤ hi.d ∧ hi.d ≤ 100000000) ∧ (-400000000000000 ≤ hi.n ∧ hi.n ≤ 400000000000000) := by
  obtain ⟨⟨c, _, e1⟩, ⟨c', _, e2⟩, _⟩ := h.some ha
  rw [e1, e2]
  exact ⟨hb c, hb c'⟩
set_option maxHeartbeats 4000000 in
set_option maxRecDepth 100000 in
theorem spans_extremes (Vt : TV) (t : Tab) (p q : Span) {w : World} {Ft : Nat → Prop} (ht : TabR Ft w Vt t) (hok : tabOk t = true) (hpok : p.ok = true) (hqok : q.ok = true) (hlies : liesT t p q = true) :
    Ret Tryz.prog 117 [.agg (tabC Vt t).toArray, .agg (spanC p).toArray, .agg (spanC q).toArray] w (fun v _ => ∃ lo hi : P4, v = .tuple #[.agg lo.cs.toArray, .agg hi.cs.toArray] ∧ Ext t p q (upTo (stops t.Y q.lo q.hi).length (stops t.X p.lo p.hi).length 0) true lo hi) := by
 refine ret_startM (n := 39) Tryz.func117 rfl rfl rfl (fun a hS => ?_)
 have Ht : ∀ W, Below w.heap.size w W → TabR Ft W Vt t := fun W hb => ht.move (keep_of hb)
 have hb := p4_bd hok hpok hqok hlies
 have hx1 := stops_pos t.X p.lo p.hi; have hy1 := stops_pos t.Y q.lo q.hi
 refine wpIn_seq ?_
 refine wpIn_region_lit ?_
 refine st_box_agg hS rfl rfl rfl fun W a b0 hS => st_box_agg hS rfl rfl rfl fun W a b1 hS => st_box_agg hS rfl rfl rfl fun W a b2 hS => st_alloc_agg Tryz.zeroValue162 hS rfl rfl fun W a b3 hS => st_alloc_agg Tryz.zeroValue162 hS rfl rfl fun W a b4 hS => wl_nil ?_
 refine wpIn_seq ?_
 refine wpIn_region_lit ?_
 refine st_alloc_one Tryz.zeroValue4 rfl hS rfl rfl fun W a b5 hS => st_store (i := 0) Tryz.sizeOf4 hS rfl rfl rfl rfl rfl rfl rfl rfl rfl fun W a hS => wl_nil ?_
 refine wpIn_seq ?_
 refine wpIn_seq ?_
 refine wpIn_region_lit ?_
 refine st_v hS rfl rfl (run_load_all (i := 5) Tryz.isAgg25 Tryz.sizeOf25 hS rfl rfl rfl) fun a hS => st_v hS rfl rfl (run_load_all (i := 4) Tryz.isAgg31 Tryz.sizeOf31 hS rfl rfl rfl) fun a hS => st_v hS rfl rfl (run_load_all (i := 3) Tryz.isAgg31 Tryz.sizeOf31 hS rfl rfl rfl) fun a hS => st_call (spans_corners Vt t p q) Tryz.call189 hS rfl rfl rfl fun v W a hR hB hlt hS => ?_
 obtain ⟨p1, p2, p3, rfl, ⟨c1, c2, c3⟩, g1, g2, g3⟩ := hR
 refine wl_nil ?_
 refine wpIn_block ?_
 refine st_range (α := Nat × Nat) (σ := Bool × P4 × P4) hS (by decide) rfl Tryz.call232 (enc := fun c => pointV t (ptAt t p q c)) (Sx := fun xs => xs = upTo (stops t.Y q.lo q.hi).length (stops t.X p.lo p.hi).length 0) (N := 1000) (corners_it hok hpok hqok hlies c1 c2 c3 (ht.deep.move (keep_of hS.below)) (fun k hk hs => by obtain ⟨B, hB, e⟩ := hs; have := hS.old B hB; have := hk.2; omega) (by rintro ⟨B, hB, e⟩; have := hlt B hB; omega) (by rintro ⟨B, hB, e⟩; have := hlt B hB; omega) (by rintro ⟨B, hB, e⟩; have := hlt B hB; omega) (fun k hs => by obtain ⟨B, hB, e⟩ := hs; have := hS.lt hB; omega)) rfl (fun z => [⟨b5, [.bool z.1], 4⟩, ⟨b4, [.int .i64 z.2.2.x, .int .i64 z.2.2.y, .int .i64 z.2.2.n, .int .i64 z.2.2.d], 162⟩, ⟨b3, [.int .i64 z.2.1.x, .int .i64 z.2.1.y, .int .i64 z.2.1.n, .int .i64 z.2.1.d], 162⟩, ⟨b2, spanC q, 31⟩, ⟨b1, spanC p, 31⟩, ⟨b0, tabC Vt t, 25⟩]) (false, ⟨0, 0, 0, 0⟩, ⟨0, 0, 0, 0⟩) rfl (by intro z B hB; simp only [List.mem_cons, List.not_mem_nil, or_false] at hB; rcases hB with rfl | rfl | rfl | rfl | rfl | rfl <;> first | exact ⟨_, nthB_in (i := 0) rfl, rfl⟩ | exact ⟨_, nthB_in (i := 1) rfl, rfl⟩ | exact ⟨_, nthB_in (i := 2) rfl, rfl⟩ | exact ⟨_, nthB_in (i := 3) rfl, rfl⟩ | exact ⟨_, nthB_in (i := 4) rfl, rfl⟩ | exact ⟨_, nthB_in (i := 5) rfl, rfl⟩) (fun pre z => Ext t p q pre z.1 z.2.1 z.2.2) (⟨fun _ => rfl, fun h => by cases h⟩) (fun _ => True) (trivial) (fun _ _ _ _ => trivial) (fun b c => [(9, .pointer (some ⟨b, 0, none⟩)), (14, pointV t (ptAt t p q c))]) (fun c => P4.cs (p4 t p q c)) ?_ ?_ ?_
 ·
  intro r c W1 a1 hS K hK
  refine wpIn_region_lit ?_
  refine st_alloc_agg Tryz.zeroValue162 hS rfl rfl fun W a b6 hS => st_store (i := 0) Tryz.sizeOf162 hS rfl rfl rfl rfl rfl rfl rfl rfl rfl fun W a hS => wl_nil ?_
  exact hK _ _ b6 (hS.old _ (nthB_in (i := 0) rfl)) (fun t v ht => hS.get t v ht) hS.size hS.defers.1 hS.below (hS.cells (i := 0) rfl _ (Below.refl _ _))
 ·
  intro r pre c z W1 a1 b hφ hN hS
  obtain ⟨an, lo, hi⟩ := z
  dsimp only [List.cons_append, List.nil_append] at hS hφ
  have hE := hφ
  refine wpIn_block ?_
  refine wpIn_seq ?_
  refine wpIn_seq ?_
  refine wpIn_region_lit ?_
  refine st_v hS rfl rfl (run_load_one (i := 0) Tryz.isAgg4 hS rfl rfl rfl) fun a hS => st_v hS rfl rfl (run_not hS rfl) fun a hS => st_v hS rfl rfl (run_move hS rfl) fun a hS => ?_
  refine st_split (d := 17) hS rfl (fun hc1 hS => ?_) (fun hc1 hS => ?_)
  ·
   try simp only [ty] at hc1
   refine st_skip hS (hS.unwanted rfl rfl rfl rfl) rfl fun a hS => st_skip hS (hS.unwanted rfl rfl rfl rfl) rfl fun a hS => st_skip hS (hS.unwanted rfl rfl rfl rfl) rfl fun a hS => st_skip hS (hS.unwanted rfl rfl rfl rfl) rfl fun a hS => st_skip hS (hS.unwanted rfl rfl rfl rfl) rfl fun a hS => st_skip hS (hS.unwanted rfl rfl rfl rfl) rfl fun a hS => st_v hS rfl rfl (run_pick_t hS rfl rfl) fun a hS => wl_nil ?_
   refine st_cond_t hS rfl ?_
   refine wpIn_region_lit ?_
   refine st_v hS rfl rfl (run_load_ext Tryz.isAgg162 Tryz.sizeOf162 hS rfl rfl (CellsAt.get _ hS.now.2)) fun a hS => st_store (i := 2) Tryz.sizeOf162 hS rfl rfl rfl rfl rfl rfl rfl rfl rfl fun W a hS => wl_nil ?_
   refine wpIn_seq ?_
   refine wpIn_seq ?_
   refine wpIn_region_lit ?_
   refine st_v hS rfl rfl (run_load_one (i := 0) Tryz.isAgg4 hS rfl rfl rfl) fun a hS => st_v hS rfl rfl (run_not hS rfl) fun a hS => st_v hS rfl rfl (run_move hS rfl) fun a hS => ?_
   refine st_split (d := 28) hS rfl (fun hc2 hS => ?_) (fun hc2 hS => ?_)
   ·
    try simp only [ty] at hc2
    refine st_skip hS (hS.unwanted rfl rfl rfl rfl) rfl fun a hS => st_skip hS (hS.unwanted rfl rfl rfl rfl) rfl fun a hS => st_skip hS (hS.unwanted rfl rfl rfl rfl) rfl fun a hS => st_skip hS (hS.unwanted rfl rfl rfl rfl) rfl fun a hS => st_skip hS (hS.unwanted rfl rfl rfl rfl) rfl fun a hS => st_skip hS (hS.unwanted rfl rfl rfl rfl) rfl fun a hS => st_v hS rfl rfl (run_pick_t hS rfl rfl) fun a hS => wl_nil ?_
    have hS := hS.sub (κ' := [(0, _), (1, _), (2, _), (3, _), (4, _), (5, _), (6, _), (7, _), (8, _), (14, _), (9, _), (35, _)]) (Sub.cons rfl (Sub.cons rfl (Sub.cons rfl (Sub.cons rfl (Sub.cons rfl (Sub.cons rfl (Sub.cons rfl (Sub.cons rfl (Sub.cons rfl (Sub.cons rfl (Sub.cons rfl (Sub.cons rfl Sub.nil))))))))))))
    refine st_cond_t hS rfl ?_
    refine wpIn_region_lit ?_
    refine st_v hS rfl rfl (run_load_ext Tryz.isAgg162 Tryz.sizeOf162 hS rfl rfl (CellsAt.get _ hS.now.2)) fun a hS => st_store (i := 1) Tryz.sizeOf162 hS rfl rfl rfl rfl rfl rfl rfl rfl rfl fun W a hS => wl_nil ?_
    refine wpIn_region_lit ?_
    refine st_store (i := 0) Tryz.sizeOf4 hS rfl rfl rfl rfl rfl rfl rfl rfl rfl fun W a hS => wl_nil ?_
    refine ⟨rfl, (true, ⟨((p4 t p q c).x), ((p4 t p q c).y), ((p4 t p q c).n), ((p4 t p q c).d)⟩, ⟨((p4 t p q c).x), ((p4 t p q c).y), ((p4 t p q c).n), ((p4 t p q c).d)⟩), _, [], ?_, hS⟩
    refine hE.next (fun c => by have := hb c; omega) c (.inl ⟨rfl, (by intro ha; rw [ha] at hc1; cases hc1)⟩) (.inl ⟨rfl, (by intro ha; rw [ha] at hc1; cases hc1)⟩)
   ·
    try simp only [ty] at hc2
    rw [hc1] at hc2; cases hc2
  ·
   try simp only [ty] at hc1
   have hcl := (cmpV_spec (p := ⟨(p4 t p q c).n, (p4 t p q c).d⟩) (q := ⟨lo.n, lo.d⟩) (by have := hb c; dsimp only; omega) (by have := hE.bd (by assumption) hb; dsimp only; omega)).1
   have hch := (cmpV_spec (p := ⟨(p4 t p q c).n, (p4 t p q c).d⟩) (q := ⟨hi.n, hi.d⟩) (by have := hb c; dsimp only; omega) (by have := hE.bd (by assumption) hb; dsimp only; omega)).2
   refine st_v hS (hS.wanted rfl rfl rfl) rfl (run_fieldAddrE fe162_2 hS rfl) fun a hS => st_v hS (hS.wanted rfl rfl rfl) rfl (run_load_ext (vs := [_, _]) Tryz.isAgg160 Tryz.sizeOf160 hS rfl rfl (CellsAt.sub (CellsAt.get _ hS.now.2) (off := 2) ⟨rfl, rfl, trivial⟩)) fun a hS => st_v hS (hS.wanted rfl rfl rfl) rfl (run_fieldAddr fa162_2 hS rfl) fun a hS => st_v hS (hS.wanted rfl rfl rfl) rfl (run_load_agg (i := 2) (vs := [_, _]) Tryz.isAgg160 Tryz.sizeOf160 hS rfl rfl rfl ⟨rfl, rfl, trivial⟩) fun a hS => st_call (spans_compare (⟨(p4 t p q c).n, (p4 t p q c).d⟩ : Span) (⟨lo.n, lo.d⟩ : Span) (by exact (hb c).1) (by exact (hb c).2) (by exact (hE.bd (by assumption) hb).1.1) (by exact (hE.bd (by assumption) hb).1.2)) Tryz.call190 hS (hS.wanted rfl rfl rfl) rfl rfl fun v W a hR hB hlt hS => ?_
   subst hR
   refine st_v hS (hS.wanted rfl rfl rfl) rfl (run_bin hS rfl rfl rfl) fun a hS => st_v hS rfl rfl (run_pick_f hS rfl rfl) fun a hS => wl_nil ?_
   refine st_cond hS rfl (fun hc3 => ?_) (fun hc3 => ?_)
   ·
    try simp only [ty] at hc3
    refine wpIn_region_lit ?_
    refine st_v hS rfl rfl (run_load_ext Tryz.isAgg162 Tryz.sizeOf162 hS rfl rfl (CellsAt.get _ hS.now.2)) fun a hS => st_store (i := 2) Tryz.sizeOf162 hS rfl rfl rfl rfl rfl rfl rfl rfl rfl fun W a hS => wl_nil ?_
    refine wpIn_seq ?_
    refine wpIn_seq ?_
    refine wpIn_region_lit ?_
    refine st_v hS rfl rfl (run_load_one (i := 0) Tryz.isAgg4 hS rfl rfl rfl) fun a hS => st_v hS rfl rfl (run_not hS rfl) fun a hS => st_v hS rfl rfl (run_move hS rfl) fun a hS => ?_
    refine st_split (d := 28) hS rfl (fun hc4 hS => ?_) (fun hc4 hS => ?_)
    ·
     try simp only [ty] at hc4
     rw [hc1] at hc4; cases hc4
    ·
     try simp only [ty] at hc4
     refine st_v hS (hS.wanted rfl rfl rfl) rfl (run_fieldAddrE fe162_2 hS rfl) fun a hS => st_v hS (hS.wanted rfl rfl rfl) rfl (run_load_ext (vs := [_, _]) Tryz.isAgg160 Tryz.sizeOf160 hS rfl rfl (CellsAt.sub (CellsAt.get _ hS.now.2) (off := 2) ⟨rfl, rfl, trivial⟩)) fun a hS => st_v hS (hS.wanted rfl rfl rfl) rfl (run_fieldAddr fa162_2 hS rfl) fun a hS => st_v hS (hS.wanted rfl rfl rfl) rfl (run_load_agg (i := 1) (vs := [_, _]) Tryz.isAgg160 Tryz.sizeOf160 hS rfl rfl rfl ⟨rfl, rfl, trivial⟩) fun a hS => st_call (spans_compare (⟨(p4 t p q c).n, (p4 t p q c).d⟩ : Span) (⟨hi.n, hi.d⟩ : Span) (by exact (hb c).1) (by exact (hb c).2) (by exact (hE.bd (by assumption) hb).2.1) (by exact (hE.bd (by assumption) hb).2.2)) Tryz.call190 hS (hS.wanted rfl rfl rfl) rfl rfl fun v W a hR hB hlt hS => ?_
     subst hR
     refine st_v hS (hS.wanted rfl rfl rfl) rfl (run_bin hS rfl rfl rfl) fun a hS => st_v hS rfl rfl (run_pick_f hS rfl rfl) fun a hS => wl_nil ?_
     have hS := hS.sub (κ' := [(0, _), (1, _), (2, _), (3, _), (4, _), (5, _), (6, _), (7, _), (8, _), (14, _), (9, _), (35, _)]) (Sub.cons rfl (Sub.cons rfl (Sub.cons rfl (Sub.cons rfl (Sub.cons rfl (Sub.cons rfl (Sub.cons rfl (Sub.cons rfl (Sub.cons rfl (Sub.cons rfl (Sub.cons rfl (Sub.cons rfl Sub.nil))))))))))))
     refine st_cond hS rfl (fun hc5 => ?_) (fun hc5 => ?_)
     ·
      try simp only [ty] at hc5
      refine wpIn_region_lit ?_
      refine st_v hS rfl rfl (run_load_ext Tryz.isAgg162 Tryz.sizeOf162 hS rfl rfl (CellsAt.get _ hS.now.2)) fun a hS => st_store (i := 1) Tryz.sizeOf162 hS rfl rfl rfl rfl rfl rfl rfl rfl rfl fun W a hS => wl_nil ?_
      refine wpIn_region_lit ?_
      refine st_store (i := 0) Tryz.sizeOf4 hS rfl rfl rfl rfl rfl rfl rfl rfl rfl fun W a hS => wl_nil ?_
      refine ⟨rfl, (true, ⟨((p4 t p q c).x), ((p4 t p q c).y), ((p4 t p q c).n), ((p4 t p q c).d)⟩, ⟨((p4 t p q c).x), ((p4 t p q c).y), ((p4 t p q c).n), ((p4 t p q c).d)⟩), _, [], ?_, hS⟩
      refine hE.next (fun c => by have := hb c; omega) c (.inl ⟨rfl, fun _ => by have := hcl.1 hc3; dsimp only at this; omega⟩) (.inl ⟨rfl, fun _ => by have := hch.1 hc5; dsimp only at this; omega⟩)
     ·
      try simp only [ty] at hc5
      refine wpIn_skip ?_
      refine wpIn_region_lit ?_
      refine st_store (i := 0) Tryz.sizeOf4 hS rfl rfl rfl rfl rfl rfl rfl rfl rfl fun W a hS => wl_nil ?_
      refine ⟨rfl, (true, ⟨((p4 t p q c).x), ((p4 t p q c).y), ((p4 t p q c).n), ((p4 t p q c).d)⟩, ⟨hi.x, hi.y, hi.n, hi.d⟩), _, [], ?_, hS⟩
      refine hE.next (fun c => by have := hb c; omega) c (.inl ⟨rfl, fun _ => by have := hcl.1 hc3; dsimp only at this; omega⟩) (.inr ⟨by assumption, rfl, by have h := mt hch.2 (by omega); dsimp only at h; omega⟩)
   ·
    try simp only [ty] at hc3
    refine wpIn_skip ?_
    refine wpIn_seq ?_
    refine wpIn_seq ?_
    refine wpIn_region_lit ?_
    refine st_v hS rfl rfl (run_load_one (i := 0) Tryz.isAgg4 hS rfl rfl rfl) fun a hS => st_v hS rfl rfl (run_not hS rfl) fun a hS => st_v hS rfl rfl (run_move hS rfl) fun a hS => ?_
    refine st_split (d := 28) hS rfl (fun hc6 hS => ?_) (fun hc6 hS => ?_)
    ·
     try simp only [ty] at hc6
     rw [hc1] at hc6; cases hc6
    ·
     try simp only [ty] at hc6
     refine st_v hS (hS.wanted rfl rfl rfl) rfl (run_fieldAddrE fe162_2 hS rfl) fun a hS => st_v hS (hS.wanted rfl rfl rfl) rfl (run_load_ext (vs := [_, _]) Tryz.isAgg160 Tryz.sizeOf160 hS rfl rfl (CellsAt.sub (CellsAt.get _ hS.now.2) (off := 2) ⟨rfl, rfl, trivial⟩)) fun a hS => st_v hS (hS.wanted rfl rfl rfl) rfl (run_fieldAddr fa162_2 hS rfl) fun a hS => st_v hS (hS.wanted rfl rfl rfl) rfl (run_load_agg (i := 1) (vs := [_, _]) Tryz.isAgg160 Tryz.sizeOf160 hS rfl rfl rfl ⟨rfl, rfl, trivial⟩) fun a hS => st_call (spans_compare (⟨(p4 t p q c).n, (p4 t p q c).d⟩ : Span) (⟨hi.n, hi.d⟩ : Span) (by exact (hb c).1) (by exact (hb c).2) (by exact (hE.bd (by assumption) hb).2.1) (by exact (hE.bd (by assumption) hb).2.2)) Tryz.call190 hS (hS.wanted rfl rfl rfl) rfl rfl fun v W a hR hB hlt hS => ?_
     subst hR
     refine st_v hS (hS.wanted rfl rfl rfl) rfl (run_bin hS rfl rfl rfl) fun a hS => st_v hS rfl rfl (run_pick_f hS rfl rfl) fun a hS => wl_nil ?_
     refine st_cond hS rfl (fun hc7 => ?_) (fun hc7 => ?_)
     ·
      try simp only [ty] at hc7
      refine wpIn_region_lit ?_
      refine st_v hS rfl rfl (run_load_ext Tryz.isAgg162 Tryz.sizeOf162 hS rfl rfl (CellsAt.get _ hS.now.2)) fun a hS => st_store (i := 1) Tryz.sizeOf162 hS rfl rfl rfl rfl rfl rfl rfl rfl rfl fun W a hS => wl_nil ?_
      have hS := hS.sub (κ' := [(0, _), (1, _), (2, _), (3, _), (4, _), (5, _), (6, _), (7, _), (8, _), (14, _), (9, _), (36, _)]) (Sub.cons rfl (Sub.cons rfl (Sub.cons rfl (Sub.cons rfl (Sub.cons rfl (Sub.cons rfl (Sub.cons rfl (Sub.cons rfl (Sub.cons rfl (Sub.cons rfl (Sub.cons rfl (Sub.cons rfl Sub.nil))))))))))))
      refine wpIn_region_lit ?_
      refine st_store (i := 0) Tryz.sizeOf4 hS rfl rfl rfl rfl rfl rfl rfl rfl rfl fun W a hS => wl_nil ?_
      refine ⟨rfl, (true, ⟨lo.x, lo.y, lo.n, lo.d⟩, ⟨((p4 t p q c).x), ((p4 t p q c).y), ((p4 t p q c).n), ((p4 t p q c).d)⟩), _, [], ?_, hS⟩
      refine hE.next (fun c => by have := hb c; omega) c (.inr ⟨by assumption, rfl, by have h := mt hcl.2 (by omega); dsimp only at h; omega⟩) (.inl ⟨rfl, fun _ => by have := hch.1 hc7; dsimp only at this; omega⟩)
     ·
      try simp only [ty] at hc7
      refine wpIn_skip ?_
      refine wpIn_region_lit ?_
      refine st_store (i := 0) Tryz.sizeOf4 hS rfl rfl rfl rfl rfl rfl rfl rfl rfl fun W a hS => wl_nil ?_
      refine ⟨rfl, (true, ⟨lo.x, lo.y, lo.n, lo.d⟩, ⟨hi.x, hi.y, hi.n, hi.d⟩), _, [], ?_, hS⟩
      refine hE.next (fun c => by have := hb c; omega) c (.inr ⟨by assumption, rfl, by have h := mt hcl.2 (by omega); dsimp only at h; omega⟩) (.inr ⟨by assumption, rfl, by have h := mt hch.2 (by omega); dsimp only at h; omega⟩)
 ·
  intro D xs z W a hx hφ hS
  obtain ⟨an, lo, hi⟩ := z
  dsimp only at hS hφ
  have hE := hφ
  have han : an = true := by
    cases an with
    | true => rfl
    | false =>
      have h1 := hE.none rfl
      have h2 : ((0 : Nat), (0 : Nat)) ∈ xs := by rw [hx]; exact mem_upTo.2 ⟨hx1, hy1⟩
      rw [h1] at h2; cases h2
  subst han
  refine wpIn_seq ?_
  refine wpIn_region_any (by kernel_rfl) ?_
  have hS := hS.grow (later_drawn _)
  refine any_go (rs := [0, 1]) (by kernel_rfl) (by simp) ⟨⟨_, rfl, ?_⟩, ⟨_, rfl, ?_⟩, trivial⟩
  ·
   refine st_v hS rfl rfl (run_load_all (i := 2) Tryz.isAgg162 Tryz.sizeOf162 hS rfl rfl rfl) fun a hS => wl_nil ?_
   refine q_then ?_
   refine any_go (rs := [1, 2]) (by kernel_rfl) (by simp) ⟨⟨_, rfl, ?_⟩, ⟨_, rfl, ?_⟩, trivial⟩
   ·
    refine st_v hS rfl rfl (run_load_all (i := 1) Tryz.isAgg162 Tryz.sizeOf162 hS rfl rfl rfl) fun a hS => wl_nil ?_
    refine q_then ?_
    refine any_go (rs := [2]) (by kernel_rfl) (by simp) ⟨⟨_, rfl, ?_⟩, trivial⟩
    refine st_store (i := 2) Tryz.sizeOf162 hS rfl rfl rfl rfl rfl rfl rfl rfl rfl fun W a hS => wl_nil ?_
    refine q_then ?_
    refine any_go (rs := [3]) (by kernel_rfl) (by simp) ⟨⟨_, rfl, ?_⟩, trivial⟩
    refine st_store (i := 1) Tryz.sizeOf162 hS rfl rfl rfl rfl rfl rfl rfl rfl rfl fun W a hS => wl_nil ?_
    refine q_then ?_
    refine wpAnyIn_done (by kernel_rfl) ?_ _
    refine wpIn_ret ?_
    repeat (first | refine q_ret ?_ | refine q_block_ret ?_)
    refine hS.doneM (fun W a' ha hS => res2 (fn := Tryz.f117) (r1 := .cell 6 162) (r2 := .cell 7 162) rfl (rv_agg (i := 2) Tryz.isAgg162 Tryz.sizeOf162 hS rfl rfl rfl) (rv_agg (i := 1) Tryz.isAgg162 Tryz.sizeOf162 hS rfl rfl rfl)) (fun W hk hz => ?_)
    exact ⟨lo, hi, rfl, by rw [← hx]; exact hE⟩
   ·
    refine st_store (i := 2) Tryz.sizeOf162 hS rfl rfl rfl rfl rfl rfl rfl rfl rfl fun W a hS => wl_nil ?_
    refine q_then ?_
    refine any_go (rs := [1]) (by kernel_rfl) (by simp) ⟨⟨_, rfl, ?_⟩, trivial⟩
    refine st_v hS rfl rfl (run_load_all (i := 1) Tryz.isAgg162 Tryz.sizeOf162 hS rfl rfl rfl) fun a hS => wl_nil ?_
    refine q_then ?_
    refine any_go (rs := [3]) (by kernel_rfl) (by simp) ⟨⟨_, rfl, ?_⟩, trivial⟩
    refine st_store (i := 1) Tryz.sizeOf162 hS rfl rfl rfl rfl rfl rfl rfl rfl rfl fun W a hS => wl_nil ?_
    refine q_then ?_
    refine wpAnyIn_done (by kernel_rfl) ?_ _
    refine wpIn_ret ?_
    repeat (first | refine q_ret ?_ | refine q_block_ret ?_)
    refine hS.doneM (fun W a' ha hS => res2 (fn := Tryz.f117) (r1 := .cell 6 162) (r2 := .cell 7 162) rfl (rv_agg (i := 2) Tryz.isAgg162 Tryz.sizeOf162 hS rfl rfl rfl) (rv_agg (i := 1) Tryz.isAgg162 Tryz.sizeOf162 hS rfl rfl rfl)) (fun W hk hz => ?_)
    exact ⟨lo, hi, rfl, by rw [← hx]; exact hE⟩
  ·
   refine st_v hS rfl rfl (run_load_all (i := 1) Tryz.isAgg162 Tryz.sizeOf162 hS rfl rfl rfl) fun a hS => wl_nil ?_
   refine q_then ?_
   refine any_go (rs := [0]) (by kernel_rfl) (by simp) ⟨⟨_, rfl, ?_⟩, trivial⟩
   refine st_v hS rfl rfl (run_load_all (i := 2) Tryz.isAgg162 Tryz.sizeOf162 hS rfl rfl rfl) fun a hS => wl_nil ?_
   refine q_then ?_
   refine any_go (rs := [2]) (by kernel_rfl) (by simp) ⟨⟨_, rfl, ?_⟩, trivial⟩
   refine st_store (i := 2) Tryz.sizeOf162 hS rfl rfl rfl rfl rfl rfl rfl rfl rfl fun W a hS => wl_nil ?_
   refine q_then ?_
   refine any_go (rs := [3]) (by kernel_rfl) (by simp) ⟨⟨_, rfl, ?_⟩, trivial⟩
   refine st_store (i := 1) Tryz.sizeOf162 hS rfl rfl rfl rfl rfl rfl rfl rfl rfl fun W a hS => wl_nil ?_
   refine q_then ?_
   refine wpAnyIn_done (by kernel_rfl) ?_ _
   refine wpIn_ret ?_
   repeat (first | refine q_ret ?_ | refine q_block_ret ?_)
   refine hS.doneM (fun W a' ha hS => res2 (fn := Tryz.f117) (r1 := .cell 6 162) (r2 := .cell 7 162) rfl (rv_agg (i := 2) Tryz.isAgg162 Tryz.sizeOf162 hS rfl rfl rfl) (rv_agg (i := 1) Tryz.isAgg162 Tryz.sizeOf162 hS rfl rfl rfl)) (fun W hk hz => ?_)
   exact ⟨lo, hi, rfl, by rw [← hx]; exact hE⟩
end Go.Proofs.YtdnodlgebpnfoaaGreat
namespace Go.Proofs.YtdnodlgebpnfoaaGreat.Sw
def errC (r : Rot) (a : Air) (b : Bool) : Int := if rotOk r then (if airOk a then (if b then 0 else 1) else 21) else 20
theorem errC_ok {r : Rot} {a : Air} {b : Bool} (h : errC r a b = 0) : rotOk r = true ∧ airOk a = true ∧ b = true := by
  unfold errC at h
  cases h1 : rotOk r <;> cases h2 : airOk a <;> cases b <;> simp [h1, h2] at h ⊢
theorem errC_of {r : Rot} {a : Air} {b : Bool} (h1 : rotOk r = true) (h2 : airOk a = true) (h3 : b = true) : errC r a b = 0 := by
  unfold errC; simp [h1, h2, h3]
theorem airOk_iff (a : Air) : airOk a = true ↔ a.weight.ok = true ∧ a.temp.ok = true ∧ a.height.ok = true ∧ a.wind.ok = true := by
  simp [airOk, and_assoc]
structure RotP (r : Rot) : Prop where
  hover : tabOk r.hover = true ∧ Within r.hover 0 100000
  ground : tabOk r.ground = true ∧ Within r.ground 0 100
  level : tabOk r.level = true ∧ Within r.level 0 100000
  power : tabOk r.power = true ∧ Within r.power 0 100000
  never : tabOk r.never = true ∧ Within r.never 0 10000
  low : tabOk r.low = true ∧ Within r.low 0 10000
  high : tabOk r.high = true ∧ Within r.high 0 10000
  glide : tabOk r.glide = true ∧ Within r.glide 1 10000
  sameX : r.low.X = r.high.X
  sameY : r.low.Y = r.high.Y
  climb : 1 ≤ r.climb ∧ r.climb ≤ 1000
  burn : 1 ≤ r.burn ∧ r.burn ≤ 1000
theorem rot_p {r : Rot} (h : rotOk r = true) : RotP r := by
  simp only [rotOk, Bool.and_eq_true, decide_eq_true_eq, within] at h
  obtain ⟨⟨⟨⟨⟨⟨⟨⟨h1, h2⟩, h3⟩, h4⟩, h5⟩, h6⟩, h7⟩, h8⟩, ⟨⟨⟨h9, h10⟩, h11⟩, h12⟩, _⟩ := h
  exact ⟨filled_within h1, filled_within h2, filled_within h3, filled_within h4, filled_within h5, filled_within h6, filled_within h7, filled_within h8, h9, h10, h11, h12⟩
theorem bnd_in {t : Tab} {lo hi : Int} (ht : tabOk t = true ∧ Within t lo hi) {p q : Span} (hp : p.ok = true) (hq : q.ok = true) (hl : liesT t p q = true) : lo ≤ (bnd t p q).lo ∧ (bnd t p q).hi ≤ hi ∧ (bnd t p q).lo ≤ (bnd t p q).hi := by
  obtain ⟨hX, hY, _, _⟩ := tab_axes ht.1
  exact bound_within hX hY ht.2 (on_of hp hq hl)
def one (n : Int) : Span := ⟨n, n⟩
theorem one_ok {n : Int} : (one n).ok = true ↔ -1000000 ≤ n ∧ n ≤ 1000000 := by
  rw [Span.ok_iff]; unfold one; simp only; omega
def hasOf (r : Rot) (a : Air) : Span := bnd r.power a.temp a.height
def onHas (r : Rot) (a : Air) : Bool := liesT r.power a.temp a.height
def topW (P : Int → Bool) (lo : Int) : Nat → Int
  | 0 => lo - 1
  | n + 1 => if P (lo + n) then lo + n else topW P lo n
structure IsTop (P : Int → Bool) (lo hi n : Int) : Prop where
  lo_ : lo - 1 ≤ n
  hi_ : n ≤ hi
  yes : ∀ w, lo ≤ w → w ≤ n → P w = true
  no : ∀ w, n < w → w ≤ hi → P w = false
theorem IsTop.eq {P : Int → Bool} {lo n : Int} : ∀ {k : Nat}, IsTop P lo (lo + k - 1) n → topW P lo k = n := by
  intro k
  induction k with
  | zero => intro h; have := h.lo_; have := h.hi_; simp only [topW]; omega
  | succ k ih =>
    intro h
    simp only [topW]
    by_cases hc : n = lo + k
    · rw [if_pos (h.yes _ (by omega) (by omega))]; exact hc.symm
    · have := h.hi_
      rw [if_neg (by rw [h.no (lo + k) (by omega) (by omega)]; simp)]
      exact ih ⟨h.lo_, by omega, h.yes, fun w h1 h2 => h.no w h1 (by omega)⟩
theorem prod_in {a b A B : Int} (h0 : 0 ≤ a) (h1 : a ≤ A) (h2 : 0 ≤ b) (h3 : b ≤ B) : 0 ≤ a * b ∧ a * b ≤ A * B := ⟨Int.mul_nonneg h0 h2, Int.mul_le_mul h1 h3 h2 (by omega)⟩
def levelOf (r : Rot) (a : Air) (v : Span) : Span := bnd r.level v a.weight
def onLevel (r : Rot) (a : Air) (v : Span) : Bool := v.ok && liesT r.level v a.weight
def partOf (p : Span) (n d : Int) : Span := ⟨fl (p.lo * n) d, ce (p.hi * n) d⟩
def partE (p : Span) (n d : Int) : Int := if p.ok then (if within n 0 1000 && within d 1 1000 then (if (partOf p n d).ok then 0 else 2) else 1) else 10
theorem levelOf_in {r : Rot} (hr : rotOk r = true) {a : Air} (ha : airOk a = true) {v : Span} (hp : onLevel r a v = true) : 0 ≤ (levelOf r a v).lo ∧ (levelOf r a v).lo ≤ (levelOf r a v).hi ∧ (levelOf r a v).hi ≤ 100000 := by
  have hR := rot_p hr
  rw [airOk_iff] at ha
  simp only [onLevel, Bool.and_eq_true] at hp
  have w1 := bnd_in hR.level hp.1 ha.1 hp.2
  unfold levelOf; omega
def wakeOf (r : Rot) (a : Air) (v s : Span) : Bool := decide ((bnd r.low v a.weight).lo ≤ s.hi) && decide (s.lo ≤ (bnd r.high v a.weight).hi)
def onRing (r : Rot) (a : Air) (v : Span) : Bool := v.ok && liesT r.low v a.weight
structure Drop where
  speed : Span
  sink : Span
  ticks : Int
theorem one_lies {t : Tab} (ht : tabOk t = true) {q : Span} {v : Int} (h : liesT t (one v) q = true) : (one v).ok = true := by
  obtain ⟨hX, _, _, _⟩ := tab_axes ht
  simp only [liesT, lies, one, Bool.and_eq_true, decide_eq_true_eq] at h
  have h1 := hX.low 0 (by have := hX.two; omega)
  have h2 := hX.high (t.X.length - 1) (by have := hX.two; omega)
  have h3 : ix t.X 0 ≤ v ∧ v ≤ ix t.X (t.X.length - 1) := ⟨of_decide_eq_true h.1.1, of_decide_eq_true h.1.2⟩
  rw [one_ok]; omega
theorem errC_congr {r : Rot} {a : Air} {b c : Bool} (h : rotOk r = true → b = c) : errC r a b = errC r a c := by
  unfold errC
  cases h1 : rotOk r with
  | true => rw [h h1]
  | false => rfl
def onWake (r : Rot) (a : Air) (p q : Span) : Bool := q.ok && onRing r a p
def hasV (r : Rot) (a : Air) : Span := if errC r a (onHas r a) = 0 then hasOf r a else ⟨0, 0⟩
def levelV (r : Rot) (a : Air) (p : Span) : Span := if errC r a (onLevel r a p) = 0 then levelOf r a p else ⟨0, 0⟩
def wakeV (r : Rot) (a : Air) (p q : Span) : Bool := if errC r a (onWake r a p q) = 0 then wakeOf r a p q else false
theorem ring_same {r : Rot} (h : RotP r) {p q : Span} : liesT r.high p q = liesT r.low p q := by simp only [liesT, h.sameX, h.sameY]
def exRot : Rot := ⟨⟨[1000, 2000], [0, 40], [[400, 500], [900, 1100]]⟩, ⟨[0, 20], [0, 30], [[70, 80], [100, 100]]⟩, ⟨[0, 50, 100], [1000, 2000], [[400, 900], [250, 500], [500, 800]]⟩, ⟨[0, 40], [0, 1000], [[1200, 1000], [1000, 800]]⟩,
  ⟨[1000, 2000], [0, 40], [[120, 110], [100, 90]]⟩, ⟨[0, 30], [1000, 2000], [[5, 6], [12, 14]]⟩, ⟨[0, 30], [1000, 2000], [[15, 18], [12, 14]]⟩, ⟨[30, 90], [1000, 2000], [[20, 24], [16, 20]]⟩, 10, 200⟩
end Go.Proofs.YtdnodlgebpnfoaaGreat.Sw
namespace Go.Proofs.YtdnodlgebpnfoaaGreat
open Go Go.RowKit Go.Shelf Sw
theorem t2s {p q : Span} {e e' : Int} (h1 : p = q) (h2 : e = e') : Value.tuple #[.agg (spanC p).toArray, .int .i64 e] = Value.tuple #[.agg (spanC q).toArray, .int .i64 e'] := by subst h1 h2; rfl
theorem fl_cross {a b c d : Int} (hb : 0 < b) (hd : 0 < d) (h : a * d ≤ c * b) : fl a b ≤ fl c d := by
  unfold fl
  rw [← Int.mul_ediv_mul_of_pos_left a b hd, ← Int.mul_ediv_mul_of_pos_left c d hb, Int.mul_comm d b]
  exact Int.ediv_le_ediv (Int.mul_pos hb hd) h
theorem ce_cross {a b c d : Int} (hb : 0 < b) (hd : 0 < d) (h : a * d ≤ c * b) : ce a b ≤ ce c d := by
  have := fl_cross (a := -c) (b := d) (c := -a) (d := b) hd hb (by rw [Int.neg_mul, Int.neg_mul]; omega)
  unfold ce fl at *
  omega
theorem ext_bnd {t : Tab} {p q : Span} (hb : ∀ c, (1 ≤ (p4 t p q c).d ∧ (p4 t p q c).d ≤ 100000000) ∧ (-400000000000000 ≤ (p4 t p q c).n ∧ (p4 t p q c).n ≤ 400000000000000)) {lo hi : P4}
    (h : Ext t p q (upTo (stops t.Y q.lo q.hi).length (stops t.X p.lo p.hi).length 0) true lo hi) : bnd t p q = ⟨fl lo.n lo.d, ce hi.n hi.d⟩ := by
  obtain ⟨⟨c, hc, e1⟩, ⟨c', hc', e2⟩, hall⟩ := h.some rfl
  have hd1 := (hb c).1.1; have hd2 := (hb c').1.1
  have at_ : ∀ c : Nat × Nat, c ∈ upTo (stops t.Y q.lo q.hi).length (stops t.X p.lo p.hi).length 0 → fl (p4 t p q c).n (p4 t p q c).d = lowAt t (ix (stops t.X p.lo p.hi) c.1) (ix (stops t.Y q.lo q.hi) c.2) ∧ ce (p4 t p q c).n (p4 t p q c).d = highAt t (ix (stops t.X p.lo p.hi) c.1) (ix (stops t.Y q.lo q.hi) c.2) ∧ c.1 < (stops t.X p.lo p.hi).length ∧ c.2 < (stops t.Y q.lo q.hi).length := by
    rintro ⟨i, j⟩ hc
    obtain ⟨hi, hj⟩ := mem_upTo.1 hc
    have e := ptAt_of (t := t) (p := p) (q := q) hi hj
    refine ⟨?_, ?_, hi, hj⟩ <;> simp only [p4, e, fracAt, lowAt, highAt]
  have back : ∀ b : Int × Int, b ∈ corners t p.lo p.hi q.lo q.hi → ∃ c : Nat × Nat, c ∈ upTo (stops t.Y q.lo q.hi).length (stops t.X p.lo p.hi).length 0 ∧ b = (ix (stops t.X p.lo p.hi) c.1, ix (stops t.Y q.lo q.hi) c.2) := by
    rintro ⟨x, y⟩ hm
    obtain ⟨h1, h2⟩ := mem_corners.1 hm
    obtain ⟨i, hi, e1⟩ := mem_ix.1 h1
    obtain ⟨j, hj, e2⟩ := mem_ix.1 h2
    exact ⟨(i, j), mem_upTo.2 ⟨hi, hj⟩, by simp only at e1 e2; rw [e1, e2]⟩
  have f1 : boundLow t p.lo p.hi q.lo q.hi = fl lo.n lo.d := by
    refine minL_eq ?_ fun b hb' => ?_
    · obtain ⟨a1, a2, a3, a4⟩ := at_ c hc
      rw [e1, a1]; exact Least.at_ (f := lowAt t) a3 a4
    · obtain ⟨z, hz, rfl⟩ := List.mem_map.1 hb'
      obtain ⟨c0, h0, rfl⟩ := back z hz
      obtain ⟨a1, a2, a3, a4⟩ := at_ c0 h0
      dsimp only
      rw [← a1]
      exact fl_cross (by rw [e1]; omega) (by have := (hb c0).1.1; omega) (hall c0 h0).1
  have f2 : boundHigh t p.lo p.hi q.lo q.hi = ce hi.n hi.d := by
    refine maxL_eq ?_ fun b hb' => ?_
    · obtain ⟨a1, a2, a3, a4⟩ := at_ c' hc'
      rw [e2, a2]; exact Least.at_ (f := highAt t) a3 a4
    · obtain ⟨z, hz, rfl⟩ := List.mem_map.1 hb'
      obtain ⟨c0, h0, rfl⟩ := back z hz
      obtain ⟨a1, a2, a3, a4⟩ := at_ c0 h0
      dsimp only
      rw [← a2]
      exact ce_cross (by have := (hb c0).1.1; omega) (by rw [e2]; omega) (hall c0 h0).2
  unfold bnd
  rw [f1, f2]
theorem cb_ok {t : Tab} {p q : Span} (h : (if tabOk t then (if p.ok && q.ok then (if liesT t p q then 0 else 1) else 10) else 11 : Int) = 0) : tabOk t = true ∧ p.ok = true ∧ q.ok = true ∧ liesT t p q = true := by
  cases h1 : tabOk t <;> cases h2 : p.ok <;> cases h3 : q.ok <;> cases h4 : liesT t p q <;> simp [h1, h2, h3, h4] at h ⊢
set_option maxHeartbeats 2000000 in
set_option maxRecDepth 100000 in
theorem spans_Bound  (Vt : TV) (t : Tab) (p : Span) (q : Span) {w : World} {Ft : Nat → Prop} (ht : TabR Ft w Vt t)  : Ret Tryz.prog 41 [.agg (tabC Vt t).toArray, .agg (spanC p).toArray, .agg (spanC q).toArray] w (fun v _ => v = .tuple #[.agg (spanC (if (if tabOk t then (if p.ok && q.ok then (if liesT t p q then 0 else 1) else 10) else 11) = (0 : Int) then bnd t p q else ⟨0, 0⟩)).toArray, .int .i64 (if tabOk t then (if p.ok && q.ok then (if liesT t p q then 0 else 1) else 10) else 11)]) := by
 refine ret_start (n := 37) Tryz.func41 rfl rfl rfl (fun a hS => ?_)
 have Ht : ∀ W, Below w.heap.size w W → TabR Ft W Vt t := fun W hb => ht.move (keep_of hb)
 have hmtx := ht.1.len
 have hmty := ht.2.1.len
 have hmtv := ht.2.2.len
 refine wpIn_seq ?_
 refine wpIn_region_lit ?_
 refine st_box_agg hS rfl rfl rfl fun W a b0 hS => st_box_agg hS rfl rfl rfl fun W a b1 hS => st_box_agg hS rfl rfl rfl fun W a b2 hS => st_alloc_agg Tryz.zeroValue31 hS rfl rfl fun W a b3 hS => st_v hS rfl rfl (run_assign hS rfl) fun a hS => wl_nil ?_
 refine wpIn_seq ?_
 refine wpIn_seq ?_
 refine wpIn_region_lit ?_
 refine st_v hS rfl rfl (run_load_all (i := 3) Tryz.isAgg25 Tryz.sizeOf25 hS rfl rfl rfl) fun a hS => st_v hS rfl rfl (run_load_all (i := 2) Tryz.isAgg31 Tryz.sizeOf31 hS rfl rfl rfl) fun a hS => st_v hS rfl rfl (run_load_all (i := 1) Tryz.isAgg31 Tryz.sizeOf31 hS rfl rfl rfl) fun a hS => st_call (spans_checkPoints Vt t p q (Ht _ hS.below)) Tryz.call116 hS rfl rfl rfl fun v W a hR hB hlt hS => ?_
 subst hR
 refine st_v hS rfl rfl (run_assign hS rfl) fun a hS => wl_nil ?_
 refine wpIn_seq ?_
 refine wpIn_region_lit ?_
 refine st_v hS rfl rfl (run_move hS rfl) fun a hS => st_v hS rfl rfl (run_bin hS rfl rfl rfl) fun a hS => wl_nil ?_
 refine st_cond hS rfl (fun hc1 => ?_) (fun hc1 => ?_)
 ·
  try simp only [ty] at hc1
  refine wpIn_seq ?_
  refine wpIn_region_lit ?_
  refine st_v hS rfl rfl (run_build (pv := []) (fun W => bd31_ W) hS rfl) fun a hS => st_v hS rfl rfl (run_move hS rfl) fun a hS => st_store (i := 0) Tryz.sizeOf31 hS rfl rfl rfl rfl rfl rfl rfl rfl rfl fun W a hS => st_v hS rfl rfl (run_assign hS rfl) fun a hS => wl_nil ?_
  refine wpIn_ret ?_
  repeat (first | refine q_ret ?_ | refine q_block_ret ?_)
  refine hS.done (res2 (fn := Tryz.f41) (r1 := .cell 6 31) (r2 := .tmp 7) rfl (rv_agg (i := 0) Tryz.isAgg31 Tryz.sizeOf31 hS rfl rfl rfl) (rv_tmp hS rfl)) ?_
  rw [if_neg hc1]; rfl
 ·
  try simp only [ty] at hc1
  obtain ⟨hok, hpok, hqok, hlies⟩ := cb_ok hc1
  refine wpIn_skip ?_
  refine wpIn_seq ?_
  refine wpIn_region_lit ?_
  refine st_v hS rfl rfl (run_load_all (i := 3) Tryz.isAgg25 Tryz.sizeOf25 hS rfl rfl rfl) fun a hS => st_v hS rfl rfl (run_load_all (i := 2) Tryz.isAgg31 Tryz.sizeOf31 hS rfl rfl rfl) fun a hS => st_v hS rfl rfl (run_load_all (i := 1) Tryz.isAgg31 Tryz.sizeOf31 hS rfl rfl rfl) fun a hS => st_call (spans_extremes Vt t p q (Ht _ hS.below) hok hpok hqok hlies) Tryz.call117 hS rfl rfl rfl fun v W a hR hB hlt hS => ?_
  obtain ⟨lo, hi, rfl, hE⟩ := hR
  have hbd := p4_bd hok hpok hqok hlies
  have hEb := hE.bd rfl hbd
  refine st_v hS rfl rfl (run_move hS rfl) fun a hS => st_v hS rfl rfl (run_extract hS rfl rfl) fun a hS => st_v hS rfl rfl (run_extract hS rfl rfl) fun a hS => st_alloc_agg Tryz.zeroValue162 hS rfl rfl fun W a b4 hS => st_alloc_agg Tryz.zeroValue162 hS rfl rfl fun W a b5 hS => st_store (i := 1) Tryz.sizeOf162 hS rfl rfl rfl rfl rfl rfl rfl rfl rfl fun W a hS => st_store (i := 0) Tryz.sizeOf162 hS rfl rfl rfl rfl rfl rfl rfl rfl rfl fun W a hS => wl_nil ?_
  refine wpIn_seq ?_
  have hlt0 := fun B hB => hS.lt (b := B) hB
  refine st_mix (k := 11) (by kernel_rfl) (by kernel_rfl) hS rfl rfl ?_
  refine mx_v (fun a W hS hB => run_fieldAddr fa162_2 hS rfl) <| mx_v (fun a W hS hB => run_fieldAddr fa160_0 hS rfl) <| mx_v (fun a W hS hB => run_load_one (i := 1) Tryz.isAgg3 hS rfl rfl rfl) <| mx_v (fun a W hS hB => run_fieldAddr fa162_2 hS rfl) <| mx_v (fun a W hS hB => run_fieldAddr fa160_1 hS rfl) <| mx_v (fun a W hS hB => run_load_one (i := 1) Tryz.isAgg3 hS rfl rfl rfl) <| mx_call Tryz.call118 rfl (fun a W hS hB => spans_floor (by omega) (by omega) (by omega)) <| mx_v (fun a W hS hB => run_fieldAddr fa162_2 hS rfl) <| mx_v (fun a W hS hB => run_load_agg (i := 0) (vs := [_, _]) Tryz.isAgg160 Tryz.sizeOf160 hS rfl rfl rfl ⟨rfl, rfl, trivial⟩) <| mx_call Tryz.call119 rfl (fun a W hS hB => spans_up (⟨hi.n, hi.d⟩ : Span) (by dsimp only; omega) (by dsimp only; omega)) <| mx_v (fun a W hS hB => run_build (pv := [(0, .int .i64 _), (1, .int .i64 _)]) (fun W => bd31_0_1 _ _ W) hS rfl) <| ?_
  refine mx_end fun a W bs us hS hB hL => ?_
  dsimp only [kall, ball, List.cons_append, List.nil_append] at hS
  refine st_store (i := 2) Tryz.sizeOf31 hS rfl rfl rfl rfl rfl rfl rfl rfl rfl fun W a hS => st_v hS rfl rfl (run_assign hS rfl) fun a hS => wl_nil ?_
  refine wpIn_ret ?_
  repeat (first | refine q_ret ?_ | refine q_block_ret ?_)
  refine hS.done (res2 (fn := Tryz.f41) (r1 := .cell 6 31) (r2 := .tmp 7) rfl (rv_agg (i := 2) Tryz.isAgg31 Tryz.sizeOf31 hS rfl rfl rfl) (rv_tmp hS rfl)) ?_
  rw [if_pos hc1, hc1, ext_bnd hbd hE]; rfl
theorem mul_bd {a b A B : Int} (ha : -A ≤ a ∧ a ≤ A) (hb : 0 ≤ b ∧ b ≤ B) : -(A * B) ≤ a * b ∧ a * b ≤ A * B := mb ha ⟨by omega, hb.2⟩
set_option maxHeartbeats 2000000 in
set_option maxRecDepth 100000 in
theorem spans_Part  (p : Span) {n : Int} {d : Int} {w : World}   : Ret Tryz.prog 168 [.agg (spanC p).toArray, .int .i64 n, .int .i64 d] w (fun v _ => v = .tuple #[.agg (spanC (if partE p n d = 0 then partOf p n d else ⟨0, 0⟩)).toArray, .int .i64 (partE p n d)]) := by
 refine ret_start (n := 40) Tryz.func168 rfl rfl rfl (fun a hS => ?_)
 refine wpIn_seq ?_
 refine wpIn_region_lit ?_
 refine st_box_agg hS rfl rfl rfl fun W a b0 hS => st_alloc_agg Tryz.zeroValue31 hS rfl rfl fun W a b1 hS => st_v hS rfl rfl (run_assign hS rfl) fun a hS => wl_nil ?_
 refine wpIn_seq ?_
 refine wpIn_seq ?_
 refine wpIn_region_lit ?_
 refine st_v hS rfl rfl (run_load_all (i := 1) Tryz.isAgg31 Tryz.sizeOf31 hS rfl rfl rfl) fun a hS => st_buildSlice (pv := [(0, .agg #[.int .i64 _, .int .i64 _])]) (fun W => bs61_1_0 _ _ W) hS rfl rfl rfl fun W a b2 hS => st_call (spans_spanned (⟨some ⟨b2, 0, none⟩, 1⟩ : SV) [p] (own_sl_of (dk := kSpan) (enc := spanC) (xs := [p]) (fun _ _ _ => rfl) hS (i := 0) rfl (Nat.le_of_ble_eq_true rfl))) Tryz.call187 hS rfl rfl rfl fun v W a hR hB hlt hS => ?_
 subst hR
 refine st_v hS rfl rfl (run_assign hS rfl) fun a hS => wl_nil ?_
 refine wpIn_seq ?_
 refine wpIn_region_lit ?_
 refine st_v hS rfl rfl (run_move hS rfl) fun a hS => st_v hS rfl rfl (run_bin hS rfl rfl rfl) fun a hS => wl_nil ?_
 refine st_cond hS rfl (fun hc1 => ?_) (fun hc1 => ?_)
 ·
  try simp only [ty] at hc1
  refine wpIn_seq ?_
  refine wpIn_region_lit ?_
  refine st_v hS rfl rfl (run_build (pv := []) (fun W => bd31_ W) hS rfl) fun a hS => st_v hS rfl rfl (run_move hS rfl) fun a hS => st_store (i := 1) Tryz.sizeOf31 hS rfl rfl rfl rfl rfl rfl rfl rfl rfl fun W a hS => st_v hS rfl rfl (run_assign hS rfl) fun a hS => wl_nil ?_
  refine wpIn_ret ?_
  repeat (first | refine q_ret ?_ | refine q_block_ret ?_)
  refine hS.done (res2 (fn := Tryz.f168) (r1 := .cell 6 31) (r2 := .tmp 7) rfl (rv_agg (i := 1) Tryz.isAgg31 Tryz.sizeOf31 hS rfl rfl rfl) (rv_tmp hS rfl)) ?_
  have h : p.ok = false := by simpa using hc1
  exact t2s (p := ⟨0, 0⟩) (by simp [partE, h]) (by simp [partE, h])
 ·
  try simp only [ty] at hc1
  have hpok : p.ok = true := by
    cases h : p.ok <;> simp [h] at hc1 ⊢
  have hp1 := (Span.ok_iff p).1 hpok
  refine wpIn_skip ?_
  refine wpIn_seq ?_
  refine wpIn_seq ?_
  refine wpIn_region_lit ?_
  refine st_v hS rfl rfl (run_move hS rfl) fun a hS => st_call (spans_within) Tryz.call209 hS rfl rfl rfl fun v W a hR hB hlt hS => ?_
  subst hR
  refine st_v hS rfl rfl (run_not hS rfl) fun a hS => st_v hS rfl rfl (run_move hS rfl) fun a hS => ?_
  refine st_split (d := 19) hS rfl (fun hc2 hS => ?_) (fun hc2 hS => ?_)
  ·
   try simp only [ty] at hc2
   refine st_skip hS (hS.unwanted rfl rfl rfl rfl) rfl fun a hS => st_skip hS (hS.unwanted rfl rfl rfl rfl) rfl fun a hS => st_skip hS (hS.unwanted rfl rfl rfl rfl) rfl fun a hS => st_v hS rfl rfl (run_pick_t hS rfl rfl) fun a hS => wl_nil ?_
   refine st_cond_t hS rfl ?_
   refine wpIn_seq ?_
   refine wpIn_region_lit ?_
   refine st_v hS rfl rfl (run_build (pv := []) (fun W => bd31_ W) hS rfl) fun a hS => st_store (i := 1) Tryz.sizeOf31 hS rfl rfl rfl rfl rfl rfl rfl rfl rfl fun W a hS => st_v hS rfl rfl (run_assign hS rfl) fun a hS => wl_nil ?_
   refine wpIn_ret ?_
   repeat (first | refine q_ret ?_ | refine q_block_ret ?_)
   refine hS.done (res2 (fn := Tryz.f168) (r1 := .cell 6 31) (r2 := .tmp 7) rfl (rv_agg (i := 1) Tryz.isAgg31 Tryz.sizeOf31 hS rfl rfl rfl) (rv_tmp hS rfl)) ?_
   have hw : (within n 0 1000 && within d 1 1000) = false := by simp_all
   exact t2s (p := ⟨0, 0⟩) (by simp [partE, hpok, hw]) (by simp [partE, hpok, hw])
  ·
   try simp only [ty] at hc2
   refine st_v hS (hS.wanted rfl rfl rfl) rfl (run_move hS rfl) fun a hS => st_call (spans_within) Tryz.call209 hS (hS.wanted rfl rfl rfl) rfl rfl fun v W a hR hB hlt hS => ?_
   subst hR
   refine st_v hS (hS.wanted rfl rfl rfl) rfl (run_not hS rfl) fun a hS => st_v hS rfl rfl (run_pick_f hS rfl rfl) fun a hS => wl_nil ?_
   refine st_cond hS rfl (fun hc3 => ?_) (fun hc3 => ?_)
   ·
    try simp only [ty] at hc3
    refine wpIn_seq ?_
    refine wpIn_region_lit ?_
    refine st_v hS rfl rfl (run_build (pv := []) (fun W => bd31_ W) hS rfl) fun a hS => st_store (i := 1) Tryz.sizeOf31 hS rfl rfl rfl rfl rfl rfl rfl rfl rfl fun W a hS => st_v hS rfl rfl (run_assign hS rfl) fun a hS => wl_nil ?_
    refine wpIn_ret ?_
    repeat (first | refine q_ret ?_ | refine q_block_ret ?_)
    refine hS.done (res2 (fn := Tryz.f168) (r1 := .cell 6 31) (r2 := .tmp 7) rfl (rv_agg (i := 1) Tryz.isAgg31 Tryz.sizeOf31 hS rfl rfl rfl) (rv_tmp hS rfl)) ?_
    have hw : (within n 0 1000 && within d 1 1000) = false := by simp_all
    exact t2s (p := ⟨0, 0⟩) (by simp [partE, hpok, hw]) (by simp [partE, hpok, hw])
   ·
    try simp only [ty] at hc3
    have hn : (0 ≤ n ∧ n ≤ 1000) ∧ (1 ≤ d ∧ d ≤ 1000) := by
      simp only [within, Bool.and_eq_true, decide_eq_true_eq] at *; omega
    have hw : (within n 0 1000 && within d 1 1000) = true := by simp [hc1, hc2, hc3]
    have p1 := mul_bd (a := p.lo) (b := n) (A := 1000000) (B := 1000) (by omega) (by omega); have p2 := mul_bd (a := p.hi) (b := n) (A := 1000000) (B := 1000) (by omega) (by omega)
    refine wpIn_skip ?_
    refine wpIn_seq ?_
    have hlt0 := fun B hB => hS.lt (b := B) hB
    refine st_mix (k := 15) (by kernel_rfl) (by kernel_rfl) hS rfl rfl ?_
    refine mx_v (fun a W hS hB => run_fieldAddr fa31_0 hS rfl) <| mx_v (fun a W hS hB => run_load_one (i := 2) Tryz.isAgg3 hS rfl rfl rfl) <| mx_v (fun a W hS hB => run_move hS rfl) <| mx_v (fun a W hS hB => run_mul (t := p.lo * n) hS rfl rfl (rfl) (by omega)) <| mx_v (fun a W hS hB => run_move hS rfl) <| mx_call Tryz.call118 rfl (fun a W hS hB => spans_floor (by omega) (by omega) (by omega)) <| mx_v (fun a W hS hB => run_fieldAddr fa31_1 hS rfl) <| mx_v (fun a W hS hB => run_load_one (i := 2) Tryz.isAgg3 hS rfl rfl rfl) <| mx_v (fun a W hS hB => run_move hS rfl) <| mx_v (fun a W hS hB => run_mul (t := p.hi * n) hS rfl rfl (rfl) (by omega)) <| mx_v (fun a W hS hB => run_move hS rfl) <| mx_call Tryz.call191 rfl (fun a W hS hB => spans_ceil (by omega) (by omega) (by omega)) <| mx_call Tryz.call213 rfl (fun a W hS hB => spans_made) <| mx_v (fun a W hS hB => run_extract hS rfl rfl) <| mx_v (fun a W hS hB => run_extract hS rfl rfl) <| ?_
    refine mx_end fun a W bs us hS hB hL => ?_
    dsimp only [kall, ball, List.cons_append, List.nil_append] at hS
    refine st_store (i := 1) Tryz.sizeOf31 hS rfl rfl rfl rfl rfl rfl rfl rfl rfl fun W a hS => st_v hS rfl rfl (run_assign hS rfl) fun a hS => wl_nil ?_
    have hS := hS.sub (κ' := [(0, _), (1, _), (2, _), (3, _), (6, _), (7, _), (8, _)]) (Sub.cons rfl (Sub.cons rfl (Sub.cons rfl (Sub.cons rfl (Sub.cons rfl (Sub.cons rfl (Sub.cons rfl Sub.nil)))))))
    refine wpIn_ret ?_
    repeat (first | refine q_ret ?_ | refine q_block_ret ?_)
    refine hS.done (res2 (fn := Tryz.f168) (r1 := .cell 6 31) (r2 := .tmp 7) rfl (rv_agg (i := 1) Tryz.isAgg31 Tryz.sizeOf31 hS rfl rfl rfl) (rv_tmp hS rfl)) ?_
    exact t2s (p := (if (partOf p n d).ok then partOf p n d else ⟨0, 0⟩)) (e := if (partOf p n d).ok then 0 else 2) (by simp only [partE, hpok, hw, if_true]; cases (partOf p n d).ok <;> simp) (by simp only [partE, hpok, hw, if_true])
end Go.Proofs.YtdnodlgebpnfoaaGreat
