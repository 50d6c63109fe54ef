/- The program's spans and tables, walked. -/
import Derived.Test.YtdnodlgebpnfoaaGreatRef1b
namespace Go.Proofs.YtdnodlgebpnfoaaGreat
open Go Go.RowKit Go.Shelf Sw
set_option linter.unusedVariables false
set_option linter.unusedSimpArgs false

set_option maxHeartbeats 2000000 in
set_option maxRecDepth 100000 in
theorem engine_floor  {n : Int} {d : Int} {w : World}  (hd : 0 < d) (hn : -2305843009213693952 ≤ n ∧ n ≤ 2305843009213693952) (hd2 : d ≤ 2305843009213693952) : Ret Tryz.prog 170 [.int .i64 n, .int .i64 d] w (fun v _ => v = .int .i64 (fl n d)) := by
 refine ret_start (n := 17) Tryz.func170 rfl rfl rfl (fun a hS => ?_)
 have hq := tdiv_abs hd hn
 have hr := fl_rem (n := n) hd
 have ht : Int.tdiv n d * d = n - Int.tmod n d := by rw [Int.tmod_def]; have := Int.mul_comm (n.tdiv d) d; omega
 have htm : -d < Int.tmod n d ∧ Int.tmod n d < d := ⟨by have := Int.tmod_lt_of_pos (-n) hd; rw [Int.neg_tmod] at this; omega, Int.tmod_lt_of_pos n hd⟩
 refine wpIn_seq ?_
 refine wpIn_region_lit ?_
 refine st_v hS rfl rfl (run_assign hS rfl) fun a hS => wl_nil ?_
 refine wpIn_seq ?_
 refine wpIn_region_lit ?_
 refine st_v hS rfl rfl (run_move hS rfl) fun a hS => st_v hS rfl rfl (run_move hS rfl) fun a hS => st_v hS rfl rfl (run_div (t := Int.tdiv n d) hS rfl rfl (by omega) (rfl) (by omega)) fun a hS => st_v hS rfl rfl (run_assign hS rfl) fun a hS => wl_nil ?_
 refine wpIn_seq ?_
 refine wpIn_seq ?_
 refine wpIn_region_lit ?_
 refine st_v hS rfl rfl (run_move hS rfl) fun a hS => st_v hS rfl rfl (run_move hS rfl) fun a hS => st_v hS rfl rfl (run_mul (t := (n - Int.tmod n d)) hS rfl rfl (by exact ht) (by omega)) fun a hS => st_v hS rfl rfl (run_move hS rfl) fun a hS => st_v hS rfl rfl (run_bin hS rfl rfl rfl) fun a hS => wl_nil ?_
 refine st_cond hS rfl (fun hc1 => ?_) (fun hc1 => ?_)
 ·
  try simp only [ty] at hc1
  refine wpIn_region_lit ?_
  refine st_v hS rfl rfl (run_move hS rfl) fun a hS => st_v hS rfl rfl (run_sub (t := (Int.tdiv n d) - 1) hS rfl rfl (rfl) (by omega) (by omega)) fun a hS => st_v hS rfl rfl (run_assign hS rfl) fun a hS => wl_nil ?_
  refine wpIn_seq ?_
  refine wpIn_region_lit ?_
  refine st_v hS rfl rfl (run_move hS rfl) fun a hS => st_v hS rfl rfl (run_assign hS rfl) fun a hS => wl_nil ?_
  refine wpIn_ret ?_
  repeat (first | refine q_ret ?_ | refine q_block_ret ?_)
  refine hS.done (res1 (fn := Tryz.f170) (r1 := .tmp 4) rfl (rv_tmp hS rfl)) ?_
  rw [if_pos (by omega)] at hr; rw [hr]
 ·
  try simp only [ty] at hc1
  refine wpIn_skip ?_
  refine wpIn_seq ?_
  refine wpIn_region_lit ?_
  refine st_v hS rfl rfl (run_move hS rfl) fun a hS => st_v hS rfl rfl (run_assign hS rfl) fun a hS => wl_nil ?_
  refine wpIn_ret ?_
  repeat (first | refine q_ret ?_ | refine q_block_ret ?_)
  refine hS.done (res1 (fn := Tryz.f170) (r1 := .tmp 4) rfl (rv_tmp hS rfl)) ?_
  rw [if_neg (by omega)] at hr; rw [hr]


set_option maxHeartbeats 2000000 in
set_option maxRecDepth 100000 in
theorem spans_floor  {n : Int} {d : Int} {w : World}  (hd : 0 < d) (hn : -2305843009213693952 ≤ n ∧ n ≤ 2305843009213693952) (hd2 : d ≤ 2305843009213693952) : Ret Tryz.prog 118 [.int .i64 n, .int .i64 d] w (fun v _ => v = .int .i64 (fl n d)) := by
 refine ret_start (n := 16) Tryz.func118 rfl rfl rfl (fun a hS => ?_)
 have hq := tdiv_abs hd hn
 have hr := fl_rem (n := n) hd
 refine wpIn_seq ?_
 refine wpIn_region_lit ?_
 refine st_v hS rfl rfl (run_assign hS rfl) fun a hS => wl_nil ?_
 refine wpIn_seq ?_
 refine wpIn_region_lit ?_
 refine st_v hS rfl rfl (run_move hS rfl) fun a hS => st_v hS rfl rfl (run_move hS rfl) fun a hS => st_v hS rfl rfl (run_div (t := Int.tdiv n d) hS rfl rfl (by omega) (rfl) (by omega)) fun a hS => st_v hS rfl rfl (run_assign hS rfl) fun a hS => wl_nil ?_
 refine wpIn_seq ?_
 refine wpIn_seq ?_
 refine wpIn_region_lit ?_
 refine st_v hS rfl rfl (run_move hS rfl) fun a hS => st_v hS rfl rfl (run_move hS rfl) fun a hS => st_v hS rfl rfl (run_rem' (t := Int.tmod n d) hS rfl rfl (by omega) (rfl)) fun a hS => st_v hS rfl rfl (run_bin hS rfl rfl rfl) fun a hS => wl_nil ?_
 refine st_cond hS rfl (fun hc1 => ?_) (fun hc1 => ?_)
 ·
  try simp only [ty] at hc1
  refine wpIn_region_lit ?_
  refine st_v hS rfl rfl (run_move hS rfl) fun a hS => st_v hS rfl rfl (run_sub (t := (Int.tdiv n d) - 1) hS rfl rfl (rfl) (by omega) (by omega)) fun a hS => st_v hS rfl rfl (run_assign hS rfl) fun a hS => wl_nil ?_
  refine wpIn_seq ?_
  refine wpIn_region_lit ?_
  refine st_v hS rfl rfl (run_move hS rfl) fun a hS => st_v hS rfl rfl (run_assign hS rfl) fun a hS => wl_nil ?_
  refine wpIn_ret ?_
  repeat (first | refine q_ret ?_ | refine q_block_ret ?_)
  refine hS.done (res1 (fn := Tryz.f118) (r1 := .tmp 4) rfl (rv_tmp hS rfl)) ?_
  rw [if_pos (by assumption)] at hr; rw [hr]
 ·
  try simp only [ty] at hc1
  refine wpIn_skip ?_
  refine wpIn_seq ?_
  refine wpIn_region_lit ?_
  refine st_v hS rfl rfl (run_move hS rfl) fun a hS => st_v hS rfl rfl (run_assign hS rfl) fun a hS => wl_nil ?_
  refine wpIn_ret ?_
  repeat (first | refine q_ret ?_ | refine q_block_ret ?_)
  refine hS.done (res1 (fn := Tryz.f118) (r1 := .tmp 4) rfl (rv_tmp hS rfl)) ?_
  rw [if_neg (by omega)] at hr; rw [hr]


set_option maxHeartbeats 2000000 in
set_option maxRecDepth 100000 in
theorem spans_ceil  {n : Int} {d : Int} {w : World}  (hd : 0 < d) (hn : -2305843009213693952 ≤ n ∧ n ≤ 2305843009213693952) (hd2 : d ≤ 2305843009213693952) : Ret Tryz.prog 191 [.int .i64 n, .int .i64 d] w (fun v _ => v = .int .i64 (ce n d)) := by
 refine ret_start (n := 10) Tryz.func191 rfl rfl rfl (fun a hS => ?_)
 have hq := fl_abs (n := -n) hd (B := 2305843009213693952) (by omega) (by omega)
 refine wpIn_seq ?_
 refine wpIn_region_lit ?_
 refine st_v hS rfl rfl (run_assign hS rfl) fun a hS => wl_nil ?_
 refine wpIn_seq ?_
 refine wpIn_region_lit ?_
 refine st_v hS rfl rfl (run_move hS rfl) fun a hS => st_v hS rfl rfl (run_negI (t := (-n)) hS rfl (by omega) (by omega) (by omega)) fun a hS => st_v hS rfl rfl (run_move hS rfl) fun a hS => st_call (spans_floor (by omega) (by omega) (by omega)) Tryz.call118 hS rfl rfl rfl fun v W a hR hB hlt hS => ?_
 subst hR
 refine st_v hS rfl rfl (run_negI (t := (ce n d)) hS rfl (by unfold ce fl at *; omega) (by unfold ce fl at *; omega) (by unfold ce fl at *; omega)) fun a hS => st_v hS rfl rfl (run_assign hS rfl) fun a hS => wl_nil ?_
 refine wpIn_ret ?_
 repeat (first | refine q_ret ?_ | refine q_block_ret ?_)
 refine hS.done (res1 (fn := Tryz.f191) (r1 := .tmp 4) rfl (rv_tmp hS rfl)) ?_
 rfl


set_option maxHeartbeats 2000000 in
set_option maxRecDepth 100000 in
theorem rotor_floor  {n : Int} {d : Int} {w : World}  (hd : 0 < d) (hn : -2305843009213693952 ≤ n ∧ n ≤ 2305843009213693952) (hd2 : d ≤ 2305843009213693952) : Ret Tryz.prog 179 [.int .i64 n, .int .i64 d] w (fun v _ => v = .int .i64 (fl n d)) := by
 refine ret_start (n := 16) Tryz.func179 rfl rfl rfl (fun a hS => ?_)
 have hq := tdiv_abs hd hn
 have hr := fl_rem (n := n) hd
 refine wpIn_seq ?_
 refine wpIn_region_lit ?_
 refine st_v hS rfl rfl (run_assign hS rfl) fun a hS => wl_nil ?_
 refine wpIn_seq ?_
 refine wpIn_region_lit ?_
 refine st_v hS rfl rfl (run_move hS rfl) fun a hS => st_v hS rfl rfl (run_move hS rfl) fun a hS => st_v hS rfl rfl (run_div (t := Int.tdiv n d) hS rfl rfl (by omega) (rfl) (by omega)) fun a hS => st_v hS rfl rfl (run_assign hS rfl) fun a hS => wl_nil ?_
 refine wpIn_seq ?_
 refine wpIn_seq ?_
 refine wpIn_region_lit ?_
 refine st_v hS rfl rfl (run_move hS rfl) fun a hS => st_v hS rfl rfl (run_move hS rfl) fun a hS => st_v hS rfl rfl (run_rem' (t := Int.tmod n d) hS rfl rfl (by omega) (rfl)) fun a hS => st_v hS rfl rfl (run_bin hS rfl rfl rfl) fun a hS => wl_nil ?_
 refine st_cond hS rfl (fun hc1 => ?_) (fun hc1 => ?_)
 ·
  try simp only [ty] at hc1
  refine wpIn_region_lit ?_
  refine st_v hS rfl rfl (run_move hS rfl) fun a hS => st_v hS rfl rfl (run_sub (t := (Int.tdiv n d) - 1) hS rfl rfl (rfl) (by omega) (by omega)) fun a hS => st_v hS rfl rfl (run_assign hS rfl) fun a hS => wl_nil ?_
  refine wpIn_seq ?_
  refine wpIn_region_lit ?_
  refine st_v hS rfl rfl (run_move hS rfl) fun a hS => st_v hS rfl rfl (run_assign hS rfl) fun a hS => wl_nil ?_
  refine wpIn_ret ?_
  repeat (first | refine q_ret ?_ | refine q_block_ret ?_)
  refine hS.done (res1 (fn := Tryz.f179) (r1 := .tmp 4) rfl (rv_tmp hS rfl)) ?_
  rw [if_pos (by assumption)] at hr; rw [hr]
 ·
  try simp only [ty] at hc1
  refine wpIn_skip ?_
  refine wpIn_seq ?_
  refine wpIn_region_lit ?_
  refine st_v hS rfl rfl (run_move hS rfl) fun a hS => st_v hS rfl rfl (run_assign hS rfl) fun a hS => wl_nil ?_
  refine wpIn_ret ?_
  repeat (first | refine q_ret ?_ | refine q_block_ret ?_)
  refine hS.done (res1 (fn := Tryz.f179) (r1 := .tmp 4) rfl (rv_tmp hS rfl)) ?_
  rw [if_neg (by omega)] at hr; rw [hr]


set_option maxHeartbeats 2000000 in
set_option maxRecDepth 100000 in
theorem spans_lies  (sl : SV) (l : List Int) (p : Span) {w : World} {Fl : Nat → Prop} (hl : Sl kInt Fl w sl l) (h0 : 0 < l.length) : Ret Tryz.prog 188 [.slice sl.a l.length sl.c, .agg (spanC p).toArray] w (fun v _ => v = .bool (lies l p.lo p.hi)) := by
 refine ret_start (n := 22) Tryz.func188 rfl rfl rfl (fun a hS => ?_)
 have Hl : ∀ W, Below w.heap.size w W → Sl kInt Fl W sl l := fun W hb => hl.at_ hb
 have hml := hl.len
 refine wpIn_seq ?_
 refine wpIn_region_lit ?_
 refine st_box_agg hS rfl rfl rfl fun W a b0 hS => st_v hS rfl rfl (run_assign hS rfl) fun a hS => wl_nil ?_
 refine wpIn_seq ?_
 refine st_draw (by kernel_rfl) (by kernel_rfl) hS ?_
 refine qt_v hS rfl rfl (fun W hB hS => run_fieldAddr fa31_0 hS rfl) fun a hS => qt_v hS rfl rfl (fun W hB hS => run_load_one (i := 0) Tryz.isAgg3 hS rfl rfl rfl) fun a hS => qt_v hS rfl rfl (fun W hB hS => run_move hS rfl) fun a hS => ?_
 obtain ⟨ad0, hA0, hL0⟩ := sl_int Hl (Below.refl _ _) (i := 0) (j := 0) (by omega) (by omega)
 refine qt_v hS rfl rfl (fun W hB hS => run_indexAddr Tryz.underlying22 Tryz.sizeOf3 hS rfl rfl hA0 (by omega) (by omega)) fun a hS => qt_v hS rfl rfl (fun W hB hS => run_load_cell Tryz.isAgg3 hS rfl (hL0 _ hS.below)) fun a hS => qt_v hS rfl rfl (fun W hB hS => run_bin hS rfl rfl rfl) fun a hS => qt_v hS rfl rfl (fun W hB hS => run_move hS rfl) fun a hS => ?_
 refine st_split (d := 11) hS rfl (fun hc1 hS => ?_) (fun hc1 hS => ?_)
 ·
  try simp only [ty] at hc1
  refine qt_v hS (hS.wanted rfl rfl rfl) rfl (fun W hB hS => run_fieldAddr fa31_1 hS rfl) fun a hS => qt_v hS (hS.wanted rfl rfl rfl) rfl (fun W hB hS => run_load_one (i := 0) Tryz.isAgg3 hS rfl rfl rfl) fun a hS => qt_v hS (hS.wanted rfl rfl rfl) rfl (fun W hB hS => run_move hS rfl) fun a hS => qt_v hS (hS.wanted rfl rfl rfl) rfl (fun W hB hS => run_move hS rfl) fun a hS => qt_v hS (hS.wanted rfl rfl rfl) rfl (fun W hB hS => run_len_slice Tryz.underlying22 hS rfl) fun a hS => qt_v hS (hS.wanted rfl rfl rfl) rfl (fun W hB hS => run_sub (t := ((l.length - 1 : Nat) : Int)) hS rfl rfl (by omega) (by omega) (by omega)) fun a hS => ?_
  obtain ⟨ad1, hA1, hL1⟩ := sl_int Hl (Below.refl _ _) (i := ((l.length - 1 : Nat) : Int)) (j := l.length - 1) (by omega) (by omega)
  refine qt_v hS (hS.wanted rfl rfl rfl) rfl (fun W hB hS => run_indexAddr Tryz.underlying22 Tryz.sizeOf3 hS rfl rfl hA1 (by omega) (by omega)) fun a hS => qt_v hS (hS.wanted rfl rfl rfl) rfl (fun W hB hS => run_load_cell Tryz.isAgg3 hS rfl (hL1 _ hS.below)) fun a hS => qt_v hS (hS.wanted rfl rfl rfl) rfl (fun W hB hS => run_bin hS rfl rfl rfl) fun a hS => qt_v hS rfl rfl (fun W hB hS => run_pick_t hS rfl rfl) fun a hS => qt_v hS rfl rfl (fun W hB hS => run_assign hS rfl) fun a hS => qt_nil hS fun W hS => ?_
  refine wpIn_ret ?_
  repeat (first | refine q_ret ?_ | refine q_block_ret ?_)
  refine hS.done (res1 (fn := Tryz.f188) (r1 := .tmp 4) rfl (rv_tmp hS rfl)) ?_
  refine vb ?_; simp only [lies, Bool.and_eq_true, decide_eq_true_eq, Bool.false_eq_true, false_iff]; unfold lastOf; omega
 ·
  try simp only [ty] at hc1
  refine qt_skip hS (hS.unwanted rfl rfl rfl rfl) rfl fun a hS => qt_skip hS (hS.unwanted rfl rfl rfl rfl) rfl fun a hS => qt_skip hS (hS.unwanted rfl rfl rfl rfl) rfl fun a hS => qt_skip hS (hS.unwanted rfl rfl rfl rfl) rfl fun a hS => qt_skip hS (hS.unwanted rfl rfl rfl rfl) rfl fun a hS => qt_skip hS (hS.unwanted rfl rfl rfl rfl) rfl fun a hS => qt_skip hS (hS.unwanted rfl rfl rfl rfl) rfl fun a hS => qt_skip hS (hS.unwanted rfl rfl rfl rfl) rfl fun a hS => qt_skip hS (hS.unwanted rfl rfl rfl rfl) rfl fun a hS => qt_v hS rfl rfl (fun W hB hS => run_pick_f hS rfl rfl) fun a hS => qt_v hS rfl rfl (fun W hB hS => run_assign hS rfl) fun a hS => qt_nil hS fun W hS => ?_
  refine wpIn_ret ?_
  repeat (first | refine q_ret ?_ | refine q_block_ret ?_)
  refine hS.done (res1 (fn := Tryz.f188) (r1 := .tmp 4) rfl (rv_tmp hS rfl)) ?_
  refine vb ?_; simp only [lies, Bool.and_eq_true, decide_eq_true_eq, Bool.false_eq_true, false_iff]; unfold lastOf; omega


set_option maxHeartbeats 2000000 in
set_option maxRecDepth 100000 in
theorem cmp_isNaN  {x : Int} {w : World}   : Ret Tryz.prog 212 [.int .i64 x] w (fun v _ => v = .bool false) := by
 refine ret_start (n := 6) Tryz.func212 rfl rfl rfl (fun a hS => ?_)
 refine wpIn_seq ?_
 refine wpIn_region_lit ?_
 refine st_v hS rfl rfl (run_assign hS rfl) fun a hS => wl_nil ?_
 refine wpIn_seq ?_
 refine wpIn_region_lit ?_
 refine st_v hS rfl rfl (run_move hS rfl) fun a hS => st_v hS rfl rfl (run_move hS rfl) fun a hS => st_v hS rfl rfl (run_bin hS rfl rfl rfl) fun a hS => st_v hS rfl rfl (run_assign hS rfl) fun a hS => wl_nil ?_
 refine wpIn_ret ?_
 repeat (first | refine q_ret ?_ | refine q_block_ret ?_)
 refine hS.done (res1 (fn := Tryz.f212) (r1 := .tmp 2) rfl (rv_tmp hS rfl)) ?_
 simp


set_option maxHeartbeats 2000000 in
set_option maxRecDepth 100000 in
theorem slices_isNaN  {x : Int} {w : World}   : Ret Tryz.prog 254 [.int .i64 x] w (fun v _ => v = .bool false) := by
 refine ret_start (n := 6) Tryz.func254 rfl rfl rfl (fun a hS => ?_)
 refine wpIn_seq ?_
 refine wpIn_region_lit ?_
 refine st_v hS rfl rfl (run_assign hS rfl) fun a hS => wl_nil ?_
 refine wpIn_seq ?_
 refine wpIn_region_lit ?_
 refine st_v hS rfl rfl (run_move hS rfl) fun a hS => st_v hS rfl rfl (run_move hS rfl) fun a hS => st_v hS rfl rfl (run_bin hS rfl rfl rfl) fun a hS => st_v hS rfl rfl (run_assign hS rfl) fun a hS => wl_nil ?_
 refine wpIn_ret ?_
 repeat (first | refine q_ret ?_ | refine q_block_ret ?_)
 refine hS.done (res1 (fn := Tryz.f254) (r1 := .tmp 2) rfl (rv_tmp hS rfl)) ?_
 simp


set_option maxHeartbeats 2000000 in
set_option maxRecDepth 100000 in
theorem cmp_Less  {x : Int} {y : Int} {w : World}   : Ret Tryz.prog 253 [.int .i64 x, .int .i64 y] w (fun v _ => v = .bool (decide (x < y))) := by
 refine ret_start (n := 17) Tryz.func253 rfl rfl rfl (fun a hS => ?_)
 refine wpIn_seq ?_
 refine wpIn_region_lit ?_
 refine st_v hS rfl rfl (run_assign hS rfl) fun a hS => wl_nil ?_
 refine wpIn_seq ?_
 refine wpIn_region_lit ?_
 refine st_v hS rfl rfl (run_move hS rfl) fun a hS => st_call (cmp_isNaN) Tryz.call212 hS rfl rfl rfl fun v W a hR hB hlt hS => ?_
 subst hR
 refine st_v hS rfl rfl (run_move hS rfl) fun a hS => st_skip hS (hS.unwanted rfl rfl rfl rfl) rfl fun a hS => st_skip hS (hS.unwanted rfl rfl rfl rfl) rfl fun a hS => st_skip hS (hS.unwanted rfl rfl rfl rfl) rfl fun a hS => st_v hS rfl rfl (run_pick_f hS rfl rfl) fun a hS => st_v hS rfl rfl (run_move hS rfl) fun a hS => st_v hS (hS.wanted rfl rfl rfl) rfl (run_move hS rfl) fun a hS => st_v hS (hS.wanted rfl rfl rfl) rfl (run_move hS rfl) fun a hS => st_v hS (hS.wanted rfl rfl rfl) rfl (run_bin hS rfl rfl rfl) fun a hS => st_v hS rfl rfl (run_pick_f hS rfl rfl) fun a hS => st_v hS rfl rfl (run_assign hS rfl) fun a hS => wl_nil ?_
 refine wpIn_ret ?_
 repeat (first | refine q_ret ?_ | refine q_block_ret ?_)
 refine hS.done (res1 (fn := Tryz.f253) (r1 := .tmp 4) rfl (rv_tmp hS rfl)) ?_
 rfl


set_option maxHeartbeats 2000000 in
set_option maxRecDepth 100000 in
theorem slices_search  (sl : SV) (l : List Int) {x : Int} {w : World} {Fl : Nat → Prop} (hl : Sl kInt Fl w sl l) (hasc : Asc l) : Ret Tryz.prog 252 [.slice sl.a l.length sl.c, .int .i64 x] w (fun v _ => v = .tuple #[.int .i64 ((lowB l x : Nat) : Int), .bool (decide (lowB l x < l.length) && decide (ix l (lowB l x) = x))]) := by
 refine ret_start (n := 54) Tryz.func252 rfl rfl rfl (fun a hS => ?_)
 have Hl : ∀ W, Below w.heap.size w W → Sl kInt Fl W sl l := fun W hb => hl.at_ hb
 have hml := hl.len
 refine wpIn_seq ?_
 refine wpIn_region_lit ?_
 refine st_v hS rfl rfl (run_assign hS rfl) fun a hS => st_v hS rfl rfl (run_assign hS rfl) fun a hS => wl_nil ?_
 refine wpIn_seq ?_
 refine wpIn_region_lit ?_
 refine st_v hS rfl rfl (run_move hS rfl) fun a hS => st_v hS rfl rfl (run_len_slice Tryz.underlying22 hS rfl) fun a hS => st_v hS rfl rfl (run_assign hS rfl) fun a hS => wl_nil ?_
 refine wpIn_seq ?_
 refine wpIn_region_lit ?_
 refine st_v hS rfl rfl (run_move hS rfl) fun a hS => st_v hS rfl rfl (run_assign hS rfl) fun a hS => st_v hS rfl rfl (run_assign hS rfl) fun a hS => wl_nil ?_
 refine wpIn_seq ?_
 refine wpIn_block ?_
 refine st_loop2 (α := Nat × Nat) (fun z => [(7, .int .i64 ((z.1 : Nat) : Int)), (8, .int .i64 ((z.2 : Nat) : Int))]) [(0, _), (1, _), (4, _), (5, _), (6, _)] (fun l _ => l) (fun z => z.1 ≤ z.2 ∧ z.2 ≤ l.length ∧ (z.1 = 0 ∨ ix l (z.1 - 1) < x) ∧ (z.2 = l.length ∨ ¬ ix l z.2 < x)) (fun z => z.2 - z.1) (⟨0, l.length⟩) hS (Sub.cons rfl (Sub.cons rfl (Sub.cons rfl (Sub.cons rfl (Sub.cons rfl (Sub.cons rfl (Sub.cons rfl Sub.nil))))))) rfl (⟨Nat.zero_le _, Nat.le_refl _, .inl rfl, .inl rfl⟩) (fun z W a hφ hS => ?_)
 obtain ⟨i, j⟩ := z
 dsimp only [setB, List.cons_append, List.nil_append, List.take] at hS hφ
 obtain ⟨hij, hj, h1, h2⟩ := hφ
 refine wpIn_seq ?_
 refine wpIn_seq ?_
 refine wpIn_region_lit ?_
 refine st_v hS rfl rfl (run_move hS rfl) fun a hS => st_v hS rfl rfl (run_move hS rfl) fun a hS => st_v hS rfl rfl (run_bin hS rfl rfl rfl) fun a hS => wl_nil ?_
 refine st_cond hS rfl (fun hc1 => ?_) (fun hc1 => ?_)
 ·
  try simp only [ty] at hc1
  refine wpIn_skip ?_
  refine wpIn_block ?_
  refine wpIn_seq ?_
  refine wpIn_region_lit ?_
  refine st_v hS rfl rfl (run_move hS rfl) fun a hS => st_v hS rfl rfl (run_move hS rfl) fun a hS => st_v hS rfl rfl (run_add (t := ((i + j : Nat) : Int)) hS rfl rfl (by omega) (by omega) (by omega)) fun a hS => st_v hS rfl rfl (run_conv Tryz.underlying3 Tryz.underlying246 hS rfl (q := ((i + j : Nat) : Int)) (by simp [IntKind.wrap, IntKind.bits, IntKind.signed] <;> omega)) fun a hS => st_v hS rfl rfl (run_shr1 hS rfl rfl (by decide) (q := (((i + j) / 2 : Nat) : Int)) (by rw [Int.fdiv_eq_ediv_of_nonneg _ (by omega)]; omega)) fun a hS => st_v hS rfl rfl (run_conv Tryz.underlying246 Tryz.underlying3 hS rfl (q := (((i + j) / 2 : Nat) : Int)) (by simp [IntKind.wrap, IntKind.bits, IntKind.signed] <;> omega)) fun a hS => st_v hS rfl rfl (run_assign hS rfl) fun a hS => wl_nil ?_
  refine wpIn_seq ?_
  refine wpIn_region_lit ?_
  refine st_v hS rfl rfl (run_move hS rfl) fun a hS => st_v hS rfl rfl (run_move hS rfl) fun a hS => ?_
  obtain ⟨ad0, hA0, hL0⟩ := sl_int Hl (Below.refl _ _) (i := (((i + j) / 2 : Nat) : Int)) (j := ((i + j) / 2)) (by omega) (by omega)
  refine st_v hS rfl rfl (run_indexAddr Tryz.underlying22 Tryz.sizeOf3 hS rfl rfl hA0 (by omega) (by omega)) fun a hS => st_v hS rfl rfl (run_load_cell Tryz.isAgg3 hS rfl (hL0 _ hS.below)) fun a hS => st_v hS rfl rfl (run_move hS rfl) fun a hS => st_call (cmp_Less) Tryz.call253 hS rfl rfl rfl fun v W a hR hB hlt hS => ?_
  subst hR
  refine wl_nil ?_
  refine st_cond hS rfl (fun hc2 => ?_) (fun hc2 => ?_)
  ·
   try simp only [ty] at hc2
   refine wpIn_region_lit ?_
   refine st_v hS rfl rfl (run_move hS rfl) fun a hS => st_v hS rfl rfl (run_add (t := (((((i + j) / 2)) + 1 : Nat) : Int)) hS rfl rfl (by omega) (by omega) (by omega)) fun a hS => st_v hS rfl rfl (run_assign hS rfl) fun a hS => wl_nil ?_
   refine ⟨⟨(i + j) / 2 + 1, j⟩, ⟨⟨by dsimp only; omega, hj, .inr (by simpa using hc2), h2⟩, by dsimp only; omega⟩, (hS.sub (Sub.cons rfl (Sub.cons rfl (Sub.cons rfl (Sub.cons rfl (Sub.cons rfl (Sub.cons rfl (Sub.cons rfl Sub.nil))))))))⟩
  ·
   try simp only [ty] at hc2
   refine wpIn_region_lit ?_
   refine st_v hS rfl rfl (run_move hS rfl) fun a hS => st_v hS rfl rfl (run_assign hS rfl) fun a hS => wl_nil ?_
   refine ⟨⟨i, (i + j) / 2⟩, ⟨⟨by dsimp only; omega, by dsimp only; omega, h1, .inr (by simpa using hc2)⟩, by dsimp only; omega⟩, (hS.sub (Sub.cons rfl (Sub.cons rfl (Sub.cons rfl (Sub.cons rfl (Sub.cons rfl (Sub.cons rfl (Sub.cons rfl Sub.nil))))))))⟩
 ·
  try simp only [ty] at hc1
  refine wpIn_exit ?_
  refine wpIn_seq ?_
  refine wpIn_region_lit ?_
  refine st_v hS rfl rfl (run_move hS rfl) fun a hS => st_v hS rfl rfl (run_move hS rfl) fun a hS => st_v hS rfl rfl (run_move hS rfl) fun a hS => st_v hS rfl rfl (run_bin hS rfl rfl rfl) fun a hS => st_v hS rfl rfl (run_move hS rfl) fun a hS => ?_
  refine st_split (d := 35) hS rfl (fun hc3 hS => ?_) (fun hc3 hS => ?_)
  ·
   try simp only [ty] at hc3
   refine st_v hS (hS.wanted rfl rfl rfl) rfl (run_move hS rfl) fun a hS => st_v hS (hS.wanted rfl rfl rfl) rfl (run_move hS rfl) fun a hS => ?_
   obtain ⟨ad1, hA1, hL1⟩ := sl_int Hl (Below.refl _ _) (i := ((i : Nat) : Int)) (j := i) (by omega) (by omega)
   refine st_v hS (hS.wanted rfl rfl rfl) rfl (run_indexAddr Tryz.underlying22 Tryz.sizeOf3 hS rfl rfl hA1 (by omega) (by omega)) fun a hS => st_v hS (hS.wanted rfl rfl rfl) rfl (run_load_cell Tryz.isAgg3 hS rfl (hL1 _ hS.below)) fun a hS => st_v hS (hS.wanted rfl rfl rfl) rfl (run_move hS rfl) fun a hS => st_v hS (hS.wanted rfl rfl rfl) rfl (run_bin hS rfl rfl rfl) fun a hS => st_v hS (hS.wanted rfl rfl rfl) rfl (run_move hS rfl) fun a hS => ?_
   refine st_split (d := 42) hS rfl (fun hc4 hS => ?_) (fun hc4 hS => ?_)
   ·
    try simp only [ty] at hc4
    refine st_skip hS (hS.unwanted rfl rfl rfl rfl) rfl fun a hS => st_skip hS (hS.unwanted rfl rfl rfl rfl) rfl fun a hS => st_skip hS (hS.unwanted rfl rfl rfl rfl) rfl fun a hS => st_skip hS (hS.unwanted rfl rfl rfl rfl) rfl fun a hS => st_skip hS (hS.unwanted rfl rfl rfl rfl) rfl fun a hS => st_skip hS (hS.unwanted rfl rfl rfl rfl) rfl fun a hS => st_skip hS (hS.unwantedU rfl rfl rfl) rfl fun a hS => st_skip hS (hS.unwantedU rfl rfl rfl) rfl fun a hS => st_skip hS (hS.unwanted rfl rfl rfl rfl) rfl fun a hS => st_v hS (hS.wanted rfl rfl rfl) rfl (run_pick_t hS rfl rfl) fun a hS => st_v hS rfl rfl (run_pick_t hS rfl rfl) fun a hS => st_v hS rfl rfl (run_assign hS rfl) fun a hS => st_v hS rfl rfl (run_assign hS rfl) fun a hS => wl_nil ?_
    have hS := hS.sub (κ' := [(0, _), (1, _), (4, _), (5, _), (6, _), (7, _), (8, _)]) (Sub.cons rfl (Sub.cons rfl (Sub.cons rfl (Sub.cons rfl (Sub.cons rfl (Sub.cons rfl (Sub.cons rfl Sub.nil)))))))
    refine wpIn_ret ?_
    repeat (first | refine q_ret ?_ | refine q_block_ret ?_)
    refine hS.done (res2 (fn := Tryz.f252) (r1 := .tmp 4) (r2 := .tmp 5) rfl (rv_tmp hS rfl) (rv_tmp hS rfl)) ?_
    have e := lowB_of hasc (x := x) (i := i) (by omega) h1 (by rwa [show i = j by omega]); subst e; simp [hc1, hc3, hc4] <;> omega
   ·
    try simp only [ty] at hc4
    refine st_v hS (hS.wanted rfl rfl rfl) rfl (run_move hS rfl) fun a hS => st_v hS (hS.wanted rfl rfl rfl) rfl (run_move hS rfl) fun a hS => ?_
    obtain ⟨ad2, hA2, hL2⟩ := sl_int Hl (Below.refl _ _) (i := ((i : Nat) : Int)) (j := i) (by omega) (by omega)
    refine st_v hS (hS.wanted rfl rfl rfl) rfl (run_indexAddr Tryz.underlying22 Tryz.sizeOf3 hS rfl rfl hA2 (by omega) (by omega)) fun a hS => st_v hS (hS.wanted rfl rfl rfl) rfl (run_load_cell Tryz.isAgg3 hS rfl (hL2 _ hS.below)) fun a hS => st_call (slices_isNaN) Tryz.call254 hS (hS.wanted rfl rfl rfl) rfl rfl fun v W a hR hB hlt hS => ?_
    subst hR
    refine st_v hS (hS.wanted rfl rfl rfl) rfl (run_move hS rfl) fun a hS => st_skip hS (hS.unwanted rfl rfl rfl rfl) rfl fun a hS => st_skip hS (hS.unwanted rfl rfl rfl rfl) rfl fun a hS => st_v hS (hS.wanted rfl rfl rfl) rfl (run_pick_f hS rfl rfl) fun a hS => st_v hS (hS.wanted rfl rfl rfl) rfl (run_pick_f hS rfl rfl) fun a hS => st_v hS rfl rfl (run_pick_t hS rfl rfl) fun a hS => st_v hS rfl rfl (run_assign hS rfl) fun a hS => st_v hS rfl rfl (run_assign hS rfl) fun a hS => wl_nil ?_
    have hS := hS.sub (κ' := [(0, _), (1, _), (4, _), (5, _), (6, _), (7, _), (8, _)]) (Sub.cons rfl (Sub.cons rfl (Sub.cons rfl (Sub.cons rfl (Sub.cons rfl (Sub.cons rfl (Sub.cons rfl Sub.nil)))))))
    refine wpIn_ret ?_
    repeat (first | refine q_ret ?_ | refine q_block_ret ?_)
    refine hS.done (res2 (fn := Tryz.f252) (r1 := .tmp 4) (r2 := .tmp 5) rfl (rv_tmp hS rfl) (rv_tmp hS rfl)) ?_
    have e := lowB_of hasc (x := x) (i := i) (by omega) h1 (by rwa [show i = j by omega]); subst e; simp [hc1, hc3, hc4] <;> omega
  ·
   try simp only [ty] at hc3
   refine st_skip hS (hS.unwanted rfl rfl rfl rfl) rfl fun a hS => st_skip hS (hS.unwanted rfl rfl rfl rfl) rfl fun a hS => st_skip hS (hS.unwanted rfl rfl rfl rfl) rfl fun a hS => st_skip hS (hS.unwanted rfl rfl rfl rfl) rfl fun a hS => st_skip hS (hS.unwanted rfl rfl rfl rfl) rfl fun a hS => st_skip hS (hS.unwanted rfl rfl rfl rfl) rfl fun a hS => st_skip hS (hS.unwanted rfl rfl rfl rfl) rfl fun a hS => st_skip hS (hS.unwantedU rfl rfl rfl) rfl fun a hS => st_skip hS (hS.unwantedU rfl rfl rfl) rfl fun a hS => st_skip hS (hS.unwantedU rfl rfl rfl) rfl fun a hS => st_skip hS (hS.unwantedU rfl rfl rfl) rfl fun a hS => st_skip hS (hS.unwantedU rfl rfl rfl) rfl fun a hS => st_skip hS (hS.unwantedU rfl rfl rfl) rfl fun a hS => st_skip hS (hS.unwantedU rfl rfl rfl) rfl fun a hS => st_skip hS (hS.unwantedU rfl rfl rfl) rfl fun a hS => st_skip hS (hS.unwantedU rfl rfl rfl) rfl fun a hS => st_skip hS (hS.unwanted rfl rfl rfl rfl) rfl fun a hS => st_v hS rfl rfl (run_pick_f hS rfl rfl) fun a hS => st_v hS rfl rfl (run_assign hS rfl) fun a hS => st_v hS rfl rfl (run_assign hS rfl) fun a hS => wl_nil ?_
   have hS := hS.sub (κ' := [(0, _), (1, _), (4, _), (5, _), (6, _), (7, _), (8, _)]) (Sub.cons rfl (Sub.cons rfl (Sub.cons rfl (Sub.cons rfl (Sub.cons rfl (Sub.cons rfl (Sub.cons rfl Sub.nil)))))))
   refine wpIn_ret ?_
   repeat (first | refine q_ret ?_ | refine q_block_ret ?_)
   refine hS.done (res2 (fn := Tryz.f252) (r1 := .tmp 4) (r2 := .tmp 5) rfl (rv_tmp hS rfl) (rv_tmp hS rfl)) ?_
   have e := lowB_of hasc (x := x) (i := i) (by omega) h1 (by rwa [show i = j by omega]); subst e; simp [hc1, hc3] <;> omega


set_option maxHeartbeats 2000000 in
set_option maxRecDepth 100000 in
theorem spans_cell  (sl : SV) (l : List Int) {x : Int} {w : World} {Fl : Nat → Prop} (hl : Sl kInt Fl w sl l) (hax : Axis l) : Ret Tryz.prog 250 [.slice sl.a l.length sl.c, .int .i64 x] w (fun v _ => v = .int .i64 ((cellAt l x : Nat) : Int)) := by
 refine ret_start (n := 18) Tryz.func250 rfl rfl rfl (fun a hS => ?_)
 have Hl : ∀ W, Below w.heap.size w W → Sl kInt Fl W sl l := fun W hb => hl.at_ hb
 have hml := hl.len
 have h2 := hax.two
 refine wpIn_seq ?_
 refine wpIn_region_lit ?_
 refine st_v hS rfl rfl (run_assign hS rfl) fun a hS => wl_nil ?_
 refine wpIn_seq ?_
 refine wpIn_region_lit ?_
 refine st_v hS rfl rfl (run_move hS rfl) fun a hS => st_v hS rfl rfl (run_move hS rfl) fun a hS => st_v hS rfl rfl (run_len_slice Tryz.underlying22 hS rfl) fun a hS => st_v hS rfl rfl (run_sub (t := ((l.length - 1 : Nat) : Int)) hS rfl rfl (by omega) (by omega) (by omega)) fun a hS => ?_
 have hC0 := (Hl _ (Below.refl _ _)).1
 have hle0 : 1 ≤ l.length - 1 ∧ l.length - 1 ≤ l.length := by omega
 refine st_v hS rfl rfl (run_part (lo' := 1) (hi' := l.length - 1) (L := (((l.drop 1).take ((l.length - 1) - 1))).length) Tryz.underlying22 Tryz.sizeOf3 hS rfl rfl rfl (by omega) (by omega) hle0.1 (Nat.le_trans hle0.2 hC0) (by simp <;> omega)) fun a hS => st_v hS rfl rfl (run_move hS rfl) fun a hS => st_call (slices_search (partSV sl 1 1) ((l.drop 1).take ((l.length - 1) - 1)) ((fun W hC => (Hl W hC).part hle0.1 hle0.2) _ hS.below) (by exact inner_asc hax)) Tryz.call252 hS rfl rfl rfl fun v W a hR hB hlt hS => ?_
 subst hR
 refine st_v hS rfl rfl (run_move hS rfl) fun a hS => st_v hS rfl rfl (run_extract hS rfl rfl) fun a hS => st_v hS rfl rfl (run_extract hS rfl rfl) fun a hS => st_v hS rfl rfl (run_assign hS rfl) fun a hS => st_v hS rfl rfl (run_assign hS rfl) fun a hS => wl_nil ?_
 refine wpIn_seq ?_
 refine wpIn_region_lit ?_
 refine st_v hS rfl rfl (run_move hS rfl) fun a hS => st_v hS rfl rfl (run_assign hS rfl) fun a hS => wl_nil ?_
 refine wpIn_ret ?_
 repeat (first | refine q_ret ?_ | refine q_block_ret ?_)
 refine hS.done (res1 (fn := Tryz.f250) (r1 := .tmp 4) rfl (rv_tmp hS rfl)) ?_
 rw [cellAt_lowB]; rfl


/-- The fraction that the program takes at a point: its numerator, its denominator. -/
def fracAt (t : Tab) (x y : Int) : Span := ⟨num t (cellAt t.X x) (cellAt t.Y y) x y, den t (cellAt t.X x) (cellAt t.Y y)⟩


set_option maxHeartbeats 2000000 in
set_option maxRecDepth 100000 in
theorem spans_at  (Vt : TV) (t : Tab) {x : Int} {y : Int} {w : World} {Ft : Nat → Prop} (ht : TabR Ft w Vt t) (hok : tabOk t = true) (hx : ix t.X 0 ≤ x ∧ x ≤ lastOf t.X) (hy : ix t.Y 0 ≤ y ∧ y ≤ lastOf t.Y) : Ret Tryz.prog 234 [.agg (tabC Vt t).toArray, .int .i64 x, .int .i64 y] w (fun v _ => v = .agg (spanC (fracAt t x y)).toArray) := by
 refine ret_start (n := 113) Tryz.func234 rfl rfl rfl (fun a hS => ?_)
 have Ht : ∀ W, Below w.heap.size w W → TabR Ft W Vt t := fun W hb => ht.move (keep_of hb)
 have hmtx := ht.1.len
 have hmty := ht.2.1.len
 have hmtv := ht.2.2.len
 obtain ⟨hX, hY, hV, hR⟩ := tab_axes hok
 have hp := part4 hok (cellAt_in hX hx.1 hx.2) (cellAt_in hY hy.1 hy.2)
 have i1 := hp.i1; have k1 := hp.k1; have ha := hp.a; have hb := hp.b; have hc := hp.c; have hd := hp.d; have wx := hp.wx; have wy := hp.wy; have hrows := hp.rows
 have c0 := hp.cols (cellAt t.X x) (by omega); have c1 := hp.cols (cellAt t.X x + 1) (by omega)
 have q1 := m2 ha hc; have q2 := m2 hb hc; have q3 := m2 ha hd; have q4 := m2 hb hd
 have q5 := m2 (a := ix t.X (cellAt t.X x + 1) - ix t.X (cellAt t.X x)) (b := ix t.Y (cellAt t.Y y + 1) - ix t.Y (cellAt t.Y y)) (by omega) (by omega)
 have p1 := m3 q1 (hp.v (cellAt t.X x) (cellAt t.Y y) (by omega) (by omega))
 have p2 := m3 q2 (hp.v (cellAt t.X x + 1) (cellAt t.Y y) (by omega) (by omega))
 have p3 := m3 q3 (hp.v (cellAt t.X x) (cellAt t.Y y + 1) (by omega) (by omega))
 have p4 := m3 q4 (hp.v (cellAt t.X x + 1) (cellAt t.Y y + 1) (by omega) (by omega))
 refine wpIn_seq ?_
 refine wpIn_region_lit ?_
 refine st_box_agg hS rfl rfl rfl fun W a b0 hS => st_alloc_agg Tryz.zeroValue160 hS rfl rfl fun W a b1 hS => wl_nil ?_
 refine wpIn_seq ?_
 refine st_draw (by kernel_rfl) (by kernel_rfl) hS ?_
 refine qt_v hS rfl rfl (fun W hB hS => run_fieldAddr fa25_0 hS rfl) fun a hS => qt_v hS rfl rfl (fun W hB hS => run_load_one (i := 1) Tryz.isAgg22 hS rfl rfl rfl) fun a hS => qt_v hS rfl rfl (fun W hB hS => run_move hS rfl) fun a hS => qt_call hS rfl rfl Tryz.call250 rfl (fun W hB hS => spans_cell Vt.x t.X ((fun W hC => (Ht W hC).1) _ hS.below) (by assumption)) fun a hS => qt_v hS rfl rfl (fun W hB hS => run_fieldAddr fa25_1 hS rfl) fun a hS => qt_v hS rfl rfl (fun W hB hS => run_load_one (i := 1) Tryz.isAgg22 hS rfl rfl rfl) fun a hS => qt_v hS rfl rfl (fun W hB hS => run_move hS rfl) fun a hS => qt_call hS rfl rfl Tryz.call250 rfl (fun W hB hS => spans_cell Vt.y t.Y ((fun W hC => (Ht W hC).2.1) _ hS.below) (by assumption)) fun a hS => qt_v hS rfl rfl (fun W hB hS => run_assign hS rfl) fun a hS => qt_v hS rfl rfl (fun W hB hS => run_assign hS rfl) fun a hS => qt_nil hS fun W hS => ?_
 refine wpIn_seq ?_
 have hlt0 := fun B hB => hS.lt (b := B) hB
 refine st_mix (k := 17) (by kernel_rfl) (by kernel_rfl) hS rfl rfl ?_
 refine mx_v (fun a W hS hB => run_fieldAddr fa25_0 hS rfl) <| mx_v (fun a W hS hB => run_load_one (i := 1) Tryz.isAgg22 hS rfl rfl rfl) <| mx_v (fun a W hS hB => run_move hS rfl) <| mx_v (fun a W hS hB => run_add (t := (((cellAt t.X x) + 1 : Nat) : Int)) hS rfl rfl (by omega) (by omega) (by omega)) <| ?_
 obtain ⟨ad0, hA0, hL0⟩ := sl_int (fun W hC => (Ht W hC).1) (Below.refl _ _) (i := (((cellAt t.X x) + 1 : Nat) : Int)) (j := (cellAt t.X x) + 1) (by omega) (by omega)
 refine mx_v (fun a W hS hB => run_indexAddr Tryz.underlying22 Tryz.sizeOf3 hS rfl rfl hA0 (by omega) (by omega)) <| mx_v (fun a W hS hB => run_load_cell Tryz.isAgg3 hS rfl (hL0 _ hS.below)) <| mx_v (fun a W hS hB => run_move hS rfl) <| mx_v (fun a W hS hB => run_sub (t := ((ix t.X ((cellAt t.X x) + 1))) - x) hS rfl rfl (rfl) (by omega) (by omega)) <| mx_v (fun a W hS hB => run_move hS rfl) <| mx_v (fun a W hS hB => run_fieldAddr fa25_0 hS rfl) <| mx_v (fun a W hS hB => run_load_one (i := 1) Tryz.isAgg22 hS rfl rfl rfl) <| mx_v (fun a W hS hB => run_move hS rfl) <| ?_
 obtain ⟨ad1, hA1, hL1⟩ := sl_int (fun W hC => (Ht W hC).1) (Below.refl _ _) (i := ((cellAt t.X x : Nat) : Int)) (j := cellAt t.X x) (by omega) (by omega)
 refine mx_v (fun a W hS hB => run_indexAddr Tryz.underlying22 Tryz.sizeOf3 hS rfl rfl hA1 (by omega) (by omega)) <| mx_v (fun a W hS hB => run_load_cell Tryz.isAgg3 hS rfl (hL1 _ hS.below)) <| mx_v (fun a W hS hB => run_sub (t := x - ((ix t.X (cellAt t.X x)))) hS rfl rfl (rfl) (by omega) (by omega)) <| mx_v (fun a W hS hB => run_assign hS rfl) <| mx_v (fun a W hS hB => run_assign hS rfl) <| ?_
 refine mx_end fun a W bs us hS hB hL => ?_
 dsimp only [kall, ball, List.cons_append, List.nil_append] at hS
 refine wl_nil ?_
 refine wpIn_seq ?_
 have hlt0 := fun B hB => hS.lt (b := B) hB
 refine st_mix (k := 17) (by kernel_rfl) (by kernel_rfl) hS rfl rfl ?_
 refine mx_v (fun a W hS hB => run_fieldAddr fa25_1 hS rfl) <| mx_v (fun a W hS hB => run_load_one (i := 1) Tryz.isAgg22 hS rfl rfl rfl) <| mx_v (fun a W hS hB => run_move hS rfl) <| mx_v (fun a W hS hB => run_add (t := (((cellAt t.Y y) + 1 : Nat) : Int)) hS rfl rfl (by omega) (by omega) (by omega)) <| ?_
 obtain ⟨ad2, hA2, hL2⟩ := sl_int (fun W hC => (Ht W hC).2.1) (Below.refl _ _) (i := (((cellAt t.Y y) + 1 : Nat) : Int)) (j := (cellAt t.Y y) + 1) (by omega) (by omega)
 refine mx_v (fun a W hS hB => run_indexAddr Tryz.underlying22 Tryz.sizeOf3 hS rfl rfl hA2 (by omega) (by omega)) <| mx_v (fun a W hS hB => run_load_cell Tryz.isAgg3 hS rfl (hL2 _ hS.below)) <| mx_v (fun a W hS hB => run_move hS rfl) <| mx_v (fun a W hS hB => run_sub (t := ((ix t.Y ((cellAt t.Y y) + 1))) - y) hS rfl rfl (rfl) (by omega) (by omega)) <| mx_v (fun a W hS hB => run_move hS rfl) <| mx_v (fun a W hS hB => run_fieldAddr fa25_1 hS rfl) <| mx_v (fun a W hS hB => run_load_one (i := 1) Tryz.isAgg22 hS rfl rfl rfl) <| mx_v (fun a W hS hB => run_move hS rfl) <| ?_
 obtain ⟨ad3, hA3, hL3⟩ := sl_int (fun W hC => (Ht W hC).2.1) (Below.refl _ _) (i := ((cellAt t.Y y : Nat) : Int)) (j := cellAt t.Y y) (by omega) (by omega)
 refine mx_v (fun a W hS hB => run_indexAddr Tryz.underlying22 Tryz.sizeOf3 hS rfl rfl hA3 (by omega) (by omega)) <| mx_v (fun a W hS hB => run_load_cell Tryz.isAgg3 hS rfl (hL3 _ hS.below)) <| mx_v (fun a W hS hB => run_sub (t := y - ((ix t.Y (cellAt t.Y y)))) hS rfl rfl (rfl) (by omega) (by omega)) <| mx_v (fun a W hS hB => run_assign hS rfl) <| mx_v (fun a W hS hB => run_assign hS rfl) <| ?_
 refine mx_end fun a W bs us hS hB hL => ?_
 dsimp only [kall, ball, List.cons_append, List.nil_append] at hS
 refine wl_nil ?_
 have hS := hS.sub (κ' := [(0, _), (1, _), (2, _), (3, _), (6, _), (7, _), (8, _), (9, _), (10, _), (11, _), (12, _)]) (Sub.cons rfl (Sub.cons rfl (Sub.cons rfl (Sub.cons rfl (Sub.cons rfl (Sub.cons rfl (Sub.cons rfl (Sub.cons rfl (Sub.cons rfl (Sub.cons rfl (Sub.cons rfl Sub.nil)))))))))))
 refine wpIn_seq ?_
 refine wpIn_region_lit ?_
 refine st_v hS rfl rfl (run_fieldAddr fa25_2 hS rfl) fun a hS => st_v hS rfl rfl (run_load_one (i := 1) Tryz.isAgg23 hS rfl rfl rfl) fun a hS => st_v hS rfl rfl (run_assign hS rfl) fun a hS => wl_nil ?_
 refine wpIn_seq ?_
 have hlt0 := fun B hB => hS.lt (b := B) hB
 refine st_mix (k := 59) (by kernel_rfl) (by kernel_rfl) hS rfl rfl ?_
 refine mx_v (fun a W hS hB => run_move hS rfl) <| mx_v (fun a W hS hB => run_move hS rfl) <| mx_v (fun a W hS hB => run_mul (t := (((ix t.X ((cellAt t.X x) + 1))) - x) * (((ix t.Y ((cellAt t.Y y) + 1))) - y)) hS rfl rfl (rfl) (by omega)) <| mx_v (fun a W hS hB => run_move hS rfl) <| mx_v (fun a W hS hB => run_move hS rfl) <| ?_
 obtain ⟨ad4, s4, hA4, hL4, hR4⟩ := sl_rowB ((fun W hC => (Ht W hC).2.2) _ (Below.refl _ _)) (i := ((cellAt t.X x : Nat) : Int)) (j := cellAt t.X x) (by omega) (by omega)
 refine mx_v (fun a W hS hB => run_indexAddr Tryz.underlying23 Tryz.sizeOf22 hS rfl rfl hA4 (by omega) (by omega)) <| mx_v (fun a W hS hB => run_load_cell Tryz.isAgg22 hS rfl (hL4 _ hS.below)) <| mx_v (fun a W hS hB => run_move hS rfl) <| ?_
 obtain ⟨ad5, hA5, hL5⟩ := sl_int hR4 (Below.refl _ _) (i := ((cellAt t.Y y : Nat) : Int)) (j := cellAt t.Y y) (by omega) (by omega)
 refine mx_v (fun a W hS hB => run_indexAddr Tryz.underlying22 Tryz.sizeOf3 hS rfl rfl hA5 (by omega) (by omega)) <| mx_v (fun a W hS hB => run_load_cell Tryz.isAgg3 hS rfl (hL5 _ hS.below)) <| mx_v (fun a W hS hB => run_mul (t := ((((ix t.X ((cellAt t.X x) + 1))) - x) * (((ix t.Y ((cellAt t.Y y) + 1))) - y)) * ((ix (rowOf t.V (cellAt t.X x)) (cellAt t.Y y)))) hS rfl rfl (rfl) (by omega)) <| mx_v (fun a W hS hB => run_move hS rfl) <| mx_v (fun a W hS hB => run_move hS rfl) <| mx_v (fun a W hS hB => run_mul (t := (x - ((ix t.X (cellAt t.X x)))) * (((ix t.Y ((cellAt t.Y y) + 1))) - y)) hS rfl rfl (rfl) (by omega)) <| mx_v (fun a W hS hB => run_move hS rfl) <| mx_v (fun a W hS hB => run_move hS rfl) <| mx_v (fun a W hS hB => run_add (t := (((cellAt t.X x) + 1 : Nat) : Int)) hS rfl rfl (by omega) (by omega) (by omega)) <| ?_
 obtain ⟨ad6, s6, hA6, hL6, hR6⟩ := sl_rowB ((fun W hC => (Ht W hC).2.2) _ (Below.refl _ _)) (i := (((cellAt t.X x) + 1 : Nat) : Int)) (j := (cellAt t.X x) + 1) (by omega) (by omega)
 refine mx_v (fun a W hS hB => run_indexAddr Tryz.underlying23 Tryz.sizeOf22 hS rfl rfl hA6 (by omega) (by omega)) <| mx_v (fun a W hS hB => run_load_cell Tryz.isAgg22 hS rfl (hL6 _ hS.below)) <| mx_v (fun a W hS hB => run_move hS rfl) <| ?_
 obtain ⟨ad7, hA7, hL7⟩ := sl_int hR6 (Below.refl _ _) (i := ((cellAt t.Y y : Nat) : Int)) (j := cellAt t.Y y) (by omega) (by omega)
 refine mx_v (fun a W hS hB => run_indexAddr Tryz.underlying22 Tryz.sizeOf3 hS rfl rfl hA7 (by omega) (by omega)) <| mx_v (fun a W hS hB => run_load_cell Tryz.isAgg3 hS rfl (hL7 _ hS.below)) <| mx_v (fun a W hS hB => run_mul (t := ((x - ((ix t.X (cellAt t.X x)))) * (((ix t.Y ((cellAt t.Y y) + 1))) - y)) * ((ix (rowOf t.V ((cellAt t.X x) + 1)) (cellAt t.Y y)))) hS rfl rfl (rfl) (by omega)) <| mx_v (fun a W hS hB => run_add (t := (((((ix t.X ((cellAt t.X x) + 1))) - x) * (((ix t.Y ((cellAt t.Y y) + 1))) - y)) * ((ix (rowOf t.V (cellAt t.X x)) (cellAt t.Y y)))) + (((x - ((ix t.X (cellAt t.X x)))) * (((ix t.Y ((cellAt t.Y y) + 1))) - y)) * ((ix (rowOf t.V ((cellAt t.X x) + 1)) (cellAt t.Y y))))) hS rfl rfl (rfl) (by omega) (by omega)) <| mx_v (fun a W hS hB => run_move hS rfl) <| mx_v (fun a W hS hB => run_move hS rfl) <| mx_v (fun a W hS hB => run_mul (t := (((ix t.X ((cellAt t.X x) + 1))) - x) * (y - ((ix t.Y (cellAt t.Y y))))) hS rfl rfl (rfl) (by omega)) <| mx_v (fun a W hS hB => run_move hS rfl) <| mx_v (fun a W hS hB => run_move hS rfl) <| ?_
 obtain ⟨ad8, s8, hA8, hL8, hR8⟩ := sl_rowB ((fun W hC => (Ht W hC).2.2) _ (Below.refl _ _)) (i := ((cellAt t.X x : Nat) : Int)) (j := cellAt t.X x) (by omega) (by omega)
 refine mx_v (fun a W hS hB => run_indexAddr Tryz.underlying23 Tryz.sizeOf22 hS rfl rfl hA8 (by omega) (by omega)) <| mx_v (fun a W hS hB => run_load_cell Tryz.isAgg22 hS rfl (hL8 _ hS.below)) <| mx_v (fun a W hS hB => run_move hS rfl) <| mx_v (fun a W hS hB => run_add (t := (((cellAt t.Y y) + 1 : Nat) : Int)) hS rfl rfl (by omega) (by omega) (by omega)) <| ?_
 obtain ⟨ad9, hA9, hL9⟩ := sl_int hR8 (Below.refl _ _) (i := (((cellAt t.Y y) + 1 : Nat) : Int)) (j := (cellAt t.Y y) + 1) (by omega) (by omega)
 refine mx_v (fun a W hS hB => run_indexAddr Tryz.underlying22 Tryz.sizeOf3 hS rfl rfl hA9 (by omega) (by omega)) <| mx_v (fun a W hS hB => run_load_cell Tryz.isAgg3 hS rfl (hL9 _ hS.below)) <| mx_v (fun a W hS hB => run_mul (t := ((((ix t.X ((cellAt t.X x) + 1))) - x) * (y - ((ix t.Y (cellAt t.Y y))))) * ((ix (rowOf t.V (cellAt t.X x)) ((cellAt t.Y y) + 1)))) hS rfl rfl (rfl) (by omega)) <| mx_v (fun a W hS hB => run_add (t := ((((((ix t.X ((cellAt t.X x) + 1))) - x) * (((ix t.Y ((cellAt t.Y y) + 1))) - y)) * ((ix (rowOf t.V (cellAt t.X x)) (cellAt t.Y y)))) + (((x - ((ix t.X (cellAt t.X x)))) * (((ix t.Y ((cellAt t.Y y) + 1))) - y)) * ((ix (rowOf t.V ((cellAt t.X x) + 1)) (cellAt t.Y y))))) + (((((ix t.X ((cellAt t.X x) + 1))) - x) * (y - ((ix t.Y (cellAt t.Y y))))) * ((ix (rowOf t.V (cellAt t.X x)) ((cellAt t.Y y) + 1))))) hS rfl rfl (rfl) (by omega) (by omega)) <| mx_v (fun a W hS hB => run_move hS rfl) <| mx_v (fun a W hS hB => run_move hS rfl) <| mx_v (fun a W hS hB => run_mul (t := (x - ((ix t.X (cellAt t.X x)))) * (y - ((ix t.Y (cellAt t.Y y))))) hS rfl rfl (rfl) (by omega)) <| mx_v (fun a W hS hB => run_move hS rfl) <| mx_v (fun a W hS hB => run_move hS rfl) <| mx_v (fun a W hS hB => run_add (t := (((cellAt t.X x) + 1 : Nat) : Int)) hS rfl rfl (by omega) (by omega) (by omega)) <| ?_
 obtain ⟨ad10, s10, hA10, hL10, hR10⟩ := sl_rowB ((fun W hC => (Ht W hC).2.2) _ (Below.refl _ _)) (i := (((cellAt t.X x) + 1 : Nat) : Int)) (j := (cellAt t.X x) + 1) (by omega) (by omega)
 refine mx_v (fun a W hS hB => run_indexAddr Tryz.underlying23 Tryz.sizeOf22 hS rfl rfl hA10 (by omega) (by omega)) <| mx_v (fun a W hS hB => run_load_cell Tryz.isAgg22 hS rfl (hL10 _ hS.below)) <| mx_v (fun a W hS hB => run_move hS rfl) <| mx_v (fun a W hS hB => run_add (t := (((cellAt t.Y y) + 1 : Nat) : Int)) hS rfl rfl (by omega) (by omega) (by omega)) <| ?_
 obtain ⟨ad11, hA11, hL11⟩ := sl_int hR10 (Below.refl _ _) (i := (((cellAt t.Y y) + 1 : Nat) : Int)) (j := (cellAt t.Y y) + 1) (by omega) (by omega)
 refine mx_v (fun a W hS hB => run_indexAddr Tryz.underlying22 Tryz.sizeOf3 hS rfl rfl hA11 (by omega) (by omega)) <| mx_v (fun a W hS hB => run_load_cell Tryz.isAgg3 hS rfl (hL11 _ hS.below)) <| mx_v (fun a W hS hB => run_mul (t := ((x - ((ix t.X (cellAt t.X x)))) * (y - ((ix t.Y (cellAt t.Y y))))) * ((ix (rowOf t.V ((cellAt t.X x) + 1)) ((cellAt t.Y y) + 1)))) hS rfl rfl (rfl) (by omega)) <| mx_v (fun a W hS hB => run_add (t := (((((((ix t.X ((cellAt t.X x) + 1))) - x) * (((ix t.Y ((cellAt t.Y y) + 1))) - y)) * ((ix (rowOf t.V (cellAt t.X x)) (cellAt t.Y y)))) + (((x - ((ix t.X (cellAt t.X x)))) * (((ix t.Y ((cellAt t.Y y) + 1))) - y)) * ((ix (rowOf t.V ((cellAt t.X x) + 1)) (cellAt t.Y y))))) + (((((ix t.X ((cellAt t.X x) + 1))) - x) * (y - ((ix t.Y (cellAt t.Y y))))) * ((ix (rowOf t.V (cellAt t.X x)) ((cellAt t.Y y) + 1))))) + (((x - ((ix t.X (cellAt t.X x)))) * (y - ((ix t.Y (cellAt t.Y y))))) * ((ix (rowOf t.V ((cellAt t.X x) + 1)) ((cellAt t.Y y) + 1))))) hS rfl rfl (rfl) (by omega) (by omega)) <| mx_v (fun a W hS hB => run_move hS rfl) <| mx_v (fun a W hS hB => run_move hS rfl) <| mx_v (fun a W hS hB => run_add (t := (ix t.X (cellAt t.X x + 1) - ix t.X (cellAt t.X x))) hS rfl rfl (by omega) (by omega) (by omega)) <| mx_v (fun a W hS hB => run_move hS rfl) <| mx_v (fun a W hS hB => run_move hS rfl) <| mx_v (fun a W hS hB => run_add (t := (ix t.Y (cellAt t.Y y + 1) - ix t.Y (cellAt t.Y y))) hS rfl rfl (by omega) (by omega) (by omega)) <| mx_v (fun a W hS hB => run_mul (t := ((ix t.X (cellAt t.X x + 1) - ix t.X (cellAt t.X x))) * ((ix t.Y (cellAt t.Y y + 1) - ix t.Y (cellAt t.Y y)))) hS rfl rfl (rfl) (by omega)) <| mx_v (fun a W hS hB => run_build (pv := [(0, .int .i64 _), (1, .int .i64 _)]) (fun W => bd160_0_1 _ _ W) hS rfl) <| ?_
 refine mx_end fun a W bs us hS hB hL => ?_
 dsimp only [kall, ball, List.cons_append, List.nil_append] at hS
 refine st_store (i := 0) Tryz.sizeOf160 hS rfl rfl rfl rfl rfl rfl rfl rfl rfl fun W a hS => wl_nil ?_
 have hS := hS.sub (κ' := [(0, _), (1, _), (2, _), (3, _), (6, _), (7, _), (8, _), (9, _), (10, _), (11, _), (12, _), (13, _), (112, _)]) (Sub.cons rfl (Sub.cons rfl (Sub.cons rfl (Sub.cons rfl (Sub.cons rfl (Sub.cons rfl (Sub.cons rfl (Sub.cons rfl (Sub.cons rfl (Sub.cons rfl (Sub.cons rfl (Sub.cons rfl (Sub.cons rfl Sub.nil)))))))))))))
 refine wpIn_ret ?_
 repeat (first | refine q_ret ?_ | refine q_block_ret ?_)
 refine hS.done (res1 (fn := Tryz.f234) (r1 := .cell 6 160) rfl (rv_agg (i := 0) Tryz.isAgg160 Tryz.sizeOf160 hS rfl rfl rfl)) ?_
 rfl


set_option maxHeartbeats 2000000 in
set_option maxRecDepth 100000 in
theorem spans_valid  (p : Span) {w : World}   : Ret Tryz.prog 231 [.agg (spanC p).toArray] w (fun v _ => v = .bool p.ok) := by
 refine ret_start (n := 13) Tryz.func231 rfl rfl rfl (fun a hS => ?_)
 refine wpIn_seq ?_
 refine wpIn_region_lit ?_
 refine st_box_agg hS rfl rfl rfl fun W a b0 hS => st_v hS rfl rfl (run_assign hS rfl) fun a hS => wl_nil ?_
 refine wpIn_seq ?_
 refine wpIn_region_lit ?_
 refine st_v hS rfl rfl (run_fieldAddr fa31_0 hS rfl) fun a hS => st_v hS rfl rfl (run_load_one (i := 0) Tryz.isAgg3 hS rfl rfl rfl) fun a hS => st_v hS rfl rfl (run_fieldAddr fa31_1 hS rfl) fun a hS => st_v hS rfl rfl (run_load_one (i := 0) Tryz.isAgg3 hS rfl rfl rfl) fun a hS => st_call (spans_within) Tryz.call209 hS rfl rfl rfl fun v W a hR hB hlt hS => ?_
 subst hR
 refine st_v hS rfl rfl (run_move hS rfl) fun a hS => ?_
 refine st_split (d := 8) hS rfl (fun hc1 hS => ?_) (fun hc1 hS => ?_)
 ·
  try simp only [ty] at hc1
  refine st_v hS (hS.wanted rfl rfl rfl) rfl (run_fieldAddr fa31_1 hS rfl) fun a hS => st_v hS (hS.wanted rfl rfl rfl) rfl (run_load_one (i := 0) Tryz.isAgg3 hS rfl rfl rfl) fun a hS => st_v hS (hS.wanted rfl rfl rfl) rfl (run_bin hS rfl rfl rfl) fun a hS => st_v hS rfl rfl (run_pick_t hS rfl rfl) fun a hS => st_v hS rfl rfl (run_assign hS rfl) fun a hS => wl_nil ?_
  refine wpIn_ret ?_
  repeat (first | refine q_ret ?_ | refine q_block_ret ?_)
  refine hS.done (res1 (fn := Tryz.f231) (r1 := .tmp 2) rfl (rv_tmp hS rfl)) ?_
  refine vb ?_; simp only [within, Bool.and_eq_true, Bool.and_eq_false_iff, decide_eq_true_eq, decide_eq_false_iff_not, Bool.false_eq_true, false_iff] at *; rw [Span.ok_iff]; omega
 ·
  try simp only [ty] at hc1
  refine st_skip hS (hS.unwanted rfl rfl rfl rfl) rfl fun a hS => st_skip hS (hS.unwanted rfl rfl rfl rfl) rfl fun a hS => st_skip hS (hS.unwanted rfl rfl rfl rfl) rfl fun a hS => st_v hS rfl rfl (run_pick_f hS rfl rfl) fun a hS => st_v hS rfl rfl (run_assign hS rfl) fun a hS => wl_nil ?_
  refine wpIn_ret ?_
  repeat (first | refine q_ret ?_ | refine q_block_ret ?_)
  refine hS.done (res1 (fn := Tryz.f231) (r1 := .tmp 2) rfl (rv_tmp hS rfl)) ?_
  refine vb ?_; simp only [within, Bool.and_eq_true, Bool.and_eq_false_iff, decide_eq_true_eq, decide_eq_false_iff_not, Bool.false_eq_true, false_iff] at *; rw [Span.ok_iff]; omega


set_option maxHeartbeats 2000000 in
set_option maxRecDepth 100000 in
theorem spans_axis  (sl : SV) (l : List Int) {w : World} {Fl : Nat → Prop} (hl : Sl kInt Fl w sl l)  : Ret Tryz.prog 228 [.slice sl.a l.length sl.c] w (fun v _ => v = .bool (axisOk l)) := by
 refine ret_start (n := 35) Tryz.func228 rfl rfl rfl (fun a hS => ?_)
 have Hl : ∀ W, Below w.heap.size w W → Sl kInt Fl W sl l := fun W hb => hl.at_ hb
 have hml := hl.len
 refine wpIn_seq ?_
 refine wpIn_region_lit ?_
 refine st_v hS rfl rfl (run_assign hS rfl) fun a hS => wl_nil ?_
 refine wpIn_seq ?_
 refine wpIn_seq ?_
 refine wpIn_region_lit ?_
 refine st_v hS rfl rfl (run_move hS rfl) fun a hS => st_v hS rfl rfl (run_len_slice Tryz.underlying22 hS rfl) fun a hS => st_call (spans_within) Tryz.call209 hS rfl rfl rfl fun v W a hR hB hlt hS => ?_
 subst hR
 refine st_v hS rfl rfl (run_not hS rfl) fun a hS => wl_nil ?_
 refine st_cond hS rfl (fun hc1 => ?_) (fun hc1 => ?_)
 ·
  try simp only [ty] at hc1
  refine wpIn_seq ?_
  refine wpIn_region_lit ?_
  refine st_v hS rfl rfl (run_assign hS rfl) fun a hS => wl_nil ?_
  refine wpIn_ret ?_
  repeat (first | refine q_ret ?_ | refine q_block_ret ?_)
  refine hS.done (res1 (fn := Tryz.f228) (r1 := .tmp 2) rfl (rv_tmp hS rfl)) ?_
  rw [axisOk_len (by simpa using hc1)]
 ·
  try simp only [ty] at hc1
  refine wpIn_skip ?_
  refine wpIn_seq ?_
  refine wpIn_seq ?_
  refine wpIn_region_lit ?_
  refine st_v hS rfl rfl (run_move hS rfl) fun a hS => st_v hS rfl rfl (run_len_slice Tryz.underlying22 hS rfl) fun a hS => st_v hS rfl rfl (run_move hS rfl) fun a hS => wl_nil ?_
  refine wpIn_block ?_
  refine st_loop2 (α := Nat) (fun x => [(11, .int .i64 (((x : Nat) : Int)))]) [(0, _), (9, _), (10, _)] (fun l _ => l) (fun x => x ≤ l.length ∧ ∀ j, j < x → axisGood l j = true) (fun x => l.length - x) (0) hS (Sub.cons rfl (Sub.cons rfl (Sub.cons rfl (Sub.cons rfl Sub.nil)))) rfl (⟨Nat.zero_le _, fun j hj => absurd hj (Nat.not_lt_zero j)⟩) (fun x W a hφ hS => ?_)
  dsimp only [setB, List.cons_append, List.nil_append, List.take] at hS
  obtain ⟨hx, hg⟩ := hφ
  refine wpIn_seq ?_
  refine wpIn_region_lit ?_
  refine st_v hS rfl rfl (run_bin hS rfl rfl rfl) fun a hS => wl_nil ?_
  refine wpIn_seq ?_
  refine st_cond hS rfl (fun hc2 => ?_) (fun hc2 => ?_)
  ·
   try simp only [ty] at hc2
   refine wpIn_skip ?_
   refine wpIn_seq ?_
   refine wpIn_block ?_
   refine wpIn_seq ?_
   refine wpIn_region_lit ?_
   refine st_v hS rfl rfl (run_move hS rfl) fun a hS => ?_
   obtain ⟨ad0, hA0, hL0⟩ := sl_int Hl (Below.refl _ _) (i := ((x : Nat) : Int)) (j := x) (by omega) (by omega)
   refine st_v hS rfl rfl (run_indexAddr Tryz.underlying22 Tryz.sizeOf3 hS rfl rfl hA0 (by omega) (by omega)) fun a hS => st_v hS rfl rfl (run_load_cell Tryz.isAgg3 hS rfl (hL0 _ hS.below)) fun a hS => st_v hS rfl rfl (run_assign hS rfl) fun a hS => st_v hS rfl rfl (run_assign hS rfl) fun a hS => wl_nil ?_
   refine wpIn_seq ?_
   refine wpIn_region_lit ?_
   refine st_v hS rfl rfl (run_move hS rfl) fun a hS => st_call (spans_within) Tryz.call209 hS rfl rfl rfl fun v W a hR hB hlt hS => ?_
   subst hR
   refine st_v hS rfl rfl (run_not hS rfl) fun a hS => st_v hS rfl rfl (run_move hS rfl) fun a hS => ?_
   refine st_split (d := 19) hS rfl (fun hc3 hS => ?_) (fun hc3 hS => ?_)
   ·
    try simp only [ty] at hc3
    refine st_skip hS (hS.unwanted rfl rfl rfl rfl) rfl fun a hS => st_skip hS (hS.unwanted rfl rfl rfl rfl) rfl fun a hS => st_skip hS (hS.unwanted rfl rfl rfl rfl) rfl fun a hS => st_skip hS (hS.unwantedU rfl rfl rfl) rfl fun a hS => st_skip hS (hS.unwantedU rfl rfl rfl) rfl fun a hS => st_skip hS (hS.unwantedU rfl rfl rfl) rfl fun a hS => st_skip hS (hS.unwantedU rfl rfl rfl) rfl fun a hS => st_skip hS (hS.unwantedU rfl rfl rfl) rfl fun a hS => st_skip hS (hS.unwantedU rfl rfl rfl) rfl fun a hS => st_skip hS (hS.unwantedU rfl rfl rfl) rfl fun a hS => st_skip hS (hS.unwantedU rfl rfl rfl) rfl fun a hS => st_skip hS (hS.unwantedU rfl rfl rfl) rfl fun a hS => st_skip hS (hS.unwanted rfl rfl rfl rfl) rfl fun a hS => st_v hS rfl rfl (run_pick_t hS rfl rfl) fun a hS => wl_nil ?_
    refine st_cond_t hS rfl ?_
    refine wpIn_seq ?_
    refine wpIn_region_lit ?_
    refine st_v hS rfl rfl (run_assign hS rfl) fun a hS => wl_nil ?_
    refine wpIn_ret ?_
    repeat (first | refine q_ret ?_ | refine q_block_ret ?_)
    refine hS.done (res1 (fn := Tryz.f228) (r1 := .tmp 2) rfl (rv_tmp hS rfl)) ?_
    rw [axisOk_bad (i := x) (by omega) (by simp [axisGood, hc3])]
   ·
    try simp only [ty] at hc3
    
    refine st_v hS (hS.wanted rfl rfl rfl) rfl (run_move hS rfl) fun a hS => st_v hS (hS.wanted rfl rfl rfl) rfl (run_bin hS rfl rfl rfl) fun a hS => st_v hS (hS.wanted rfl rfl rfl) rfl (run_move hS rfl) fun a hS => ?_
    refine st_split (d := 22) hS rfl (fun hc4 hS => ?_) (fun hc4 hS => ?_)
    ·
     try simp only [ty] at hc4
     have hb1 : -1000000 ≤ ix l x ∧ ix l x ≤ 1000000 := by simpa [within] using hc3
     have hb2 := hg (x - 1) (by omega)
     simp only [axisGood, within, Bool.and_eq_true, decide_eq_true_eq] at hb2
     refine st_v hS (hS.wanted rfl rfl rfl) rfl (run_move hS rfl) fun a hS => st_v hS (hS.wanted rfl rfl rfl) rfl (run_move hS rfl) fun a hS => st_v hS (hS.wanted rfl rfl rfl) rfl (run_move hS rfl) fun a hS => st_v hS (hS.wanted rfl rfl rfl) rfl (run_sub (t := ((x - 1 : Nat) : Int)) hS rfl rfl (by omega) (by omega) (by omega)) fun a hS => ?_
     obtain ⟨ad1, hA1, hL1⟩ := sl_int Hl (Below.refl _ _) (i := ((x - 1 : Nat) : Int)) (j := x - 1) (by omega) (by omega)
     refine st_v hS (hS.wanted rfl rfl rfl) rfl (run_indexAddr Tryz.underlying22 Tryz.sizeOf3 hS rfl rfl hA1 (by omega) (by omega)) fun a hS => st_v hS (hS.wanted rfl rfl rfl) rfl (run_load_cell Tryz.isAgg3 hS rfl (hL1 _ hS.below)) fun a hS => st_v hS (hS.wanted rfl rfl rfl) rfl (run_sub (t := ((ix l (x))) - ((ix l (x - 1)))) hS rfl rfl (rfl) (by omega) (by omega)) fun a hS => st_call (spans_within) Tryz.call209 hS (hS.wanted rfl rfl rfl) rfl rfl fun v W a hR hB hlt hS => ?_
     subst hR
     refine st_v hS (hS.wanted rfl rfl rfl) rfl (run_not hS rfl) fun a hS => st_v hS (hS.wanted rfl rfl rfl) rfl (run_pick_t hS rfl rfl) fun a hS => st_v hS rfl rfl (run_pick_f hS rfl rfl) fun a hS => wl_nil ?_
     refine st_cond hS rfl (fun hc5 => ?_) (fun hc5 => ?_)
     ·
      try simp only [ty] at hc5
      refine wpIn_seq ?_
      refine wpIn_region_lit ?_
      refine st_v hS rfl rfl (run_assign hS rfl) fun a hS => wl_nil ?_
      refine wpIn_ret ?_
      repeat (first | refine q_ret ?_ | refine q_block_ret ?_)
      refine hS.done (res1 (fn := Tryz.f228) (r1 := .tmp 2) rfl (rv_tmp hS rfl)) ?_
      rw [axisOk_bad (i := x) (by omega) (by simp [axisGood, hc5]; omega)]
     ·
      try simp only [ty] at hc5
      refine wpIn_skip ?_
      refine wpIn_region_lit ?_
      refine st_v hS rfl rfl (run_add (t := ((x + 1 : Nat) : Int)) hS rfl rfl (by omega) (by omega) (by omega)) fun a hS => st_v hS rfl rfl (run_move hS rfl) fun a hS => wl_nil ?_
      refine ⟨x + 1, ⟨⟨by omega, fun j hj => ?_⟩, by omega⟩, (hS.sub (Sub.cons rfl (Sub.cons rfl (Sub.cons rfl (Sub.cons rfl Sub.nil)))))⟩
      by_cases e : j = x
      · subst e; simp [axisGood, hc3, hc5]
      · exact hg j (by omega)
    ·
     try simp only [ty] at hc4
     refine st_skip hS (hS.unwanted rfl rfl rfl rfl) rfl fun a hS => st_skip hS (hS.unwanted rfl rfl rfl rfl) rfl fun a hS => st_skip hS (hS.unwanted rfl rfl rfl rfl) rfl fun a hS => st_skip hS (hS.unwanted rfl rfl rfl rfl) rfl fun a hS => st_skip hS (hS.unwanted rfl rfl rfl rfl) rfl fun a hS => st_skip hS (hS.unwanted rfl rfl rfl rfl) rfl fun a hS => st_skip hS (hS.unwanted rfl rfl rfl rfl) rfl fun a hS => st_skip hS (hS.unwanted rfl rfl rfl rfl) rfl fun a hS => st_skip hS (hS.unwanted rfl rfl rfl rfl) rfl fun a hS => st_v hS (hS.wanted rfl rfl rfl) rfl (run_pick_f hS rfl rfl) fun a hS => st_v hS rfl rfl (run_pick_f hS rfl rfl) fun a hS => wl_nil ?_
     refine st_cond_f hS rfl ?_
     refine wpIn_skip ?_
     refine wpIn_region_lit ?_
     refine st_v hS rfl rfl (run_add (t := ((x + 1 : Nat) : Int)) hS rfl rfl (by omega) (by omega) (by omega)) fun a hS => st_v hS rfl rfl (run_move hS rfl) fun a hS => wl_nil ?_
     refine ⟨x + 1, ⟨⟨by omega, fun j hj => ?_⟩, by omega⟩, (hS.sub (Sub.cons rfl (Sub.cons rfl (Sub.cons rfl (Sub.cons rfl Sub.nil)))))⟩
     by_cases e : j = x
     · subst e; simp only [axisGood, hc3, Bool.true_and, Bool.or_eq_true, beq_iff_eq]; exact .inl (by omega)
     · exact hg j (by omega)
  ·
   try simp only [ty] at hc2
   refine wpIn_exit ?_
   refine wpIn_seq ?_
   refine wpIn_region_lit ?_
   refine st_v hS rfl rfl (run_assign hS rfl) fun a hS => wl_nil ?_
   refine wpIn_ret ?_
   repeat (first | refine q_ret ?_ | refine q_block_ret ?_)
   refine hS.done (res1 (fn := Tryz.f228) (r1 := .tmp 2) rfl (rv_tmp hS rfl)) ?_
   rw [axisOk_good (by simpa using hc1) (fun j hj => hg j (by omega))]


set_option maxHeartbeats 2000000 in
set_option maxRecDepth 100000 in
theorem idx_row (sxs : SV) (xs : List (List Int)) (f : FuncId) (cap : List Value) (p : List Int → Bool) {F : Nat → Prop} {w : World} (hxs : Sl kRow F w sxs xs) (hf : Enters Tryz.prog f) (hp : ∀ W, Below w.heap.size w W → ∀ (s' : SV) (row : List Int), row ∈ xs → Sl kInt F W s' row → Ret Tryz.prog f (.slice s'.a row.length s'.c :: cap) W (fun v _ => v = .bool (p row))) : Ret Tryz.prog 249 [.slice sxs.a xs.length sxs.c, .func (.func f) #[] cap.toArray] w (fun v _ => v = .int .i64 (idxOf p xs)) := by
 refine ret_start (n := 19) Tryz.func249 rfl rfl rfl (fun a hS => ?_)
 have Hxs : ∀ W, Below w.heap.size w W → Sl kRow F W sxs xs := fun W hb => hxs.at_ hb
 have hmxs := hxs.len
 refine wpIn_seq ?_
 refine wpIn_region_lit ?_
 refine st_v hS rfl rfl (run_assign hS rfl) fun a hS => wl_nil ?_
 refine wpIn_seq ?_
 refine wpIn_seq ?_
 refine wpIn_region_lit ?_
 refine st_v hS rfl rfl (run_move hS rfl) fun a hS => st_v hS rfl rfl (run_len_slice Tryz.underlying23 hS rfl) fun a hS => st_v hS rfl rfl (run_move hS rfl) fun a hS => wl_nil ?_
 refine wpIn_block ?_
 refine st_loop2 (α := Nat) (fun x => [(8, .int .i64 (((x : Nat) : Int)))]) [(0, _), (1, _), (7, _)] (fun l _ => l) (fun x => x ≤ xs.length ∧ ∀ j, j < x → p (xs.getD j []) = false) (fun x => xs.length - x) (0) hS (Sub.cons rfl (Sub.cons rfl (Sub.cons rfl (Sub.cons rfl Sub.nil)))) rfl (⟨Nat.zero_le _, fun j hj => absurd hj (Nat.not_lt_zero j)⟩) (fun x W a hφ hS => ?_)
 dsimp only [setB, List.cons_append, List.nil_append, List.take] at hS
 obtain ⟨hx, hg⟩ := hφ
 refine wpIn_seq ?_
 refine wpIn_region_lit ?_
 refine st_v hS rfl rfl (run_bin hS rfl rfl rfl) fun a hS => wl_nil ?_
 refine wpIn_seq ?_
 refine st_cond hS rfl (fun hc1 => ?_) (fun hc1 => ?_)
 ·
  try simp only [ty] at hc1
  refine wpIn_skip ?_
  refine wpIn_seq ?_
  refine wpIn_block ?_
  refine wpIn_seq ?_
  refine wpIn_region_lit ?_
  refine st_v hS rfl rfl (run_move hS rfl) fun a hS => st_v hS rfl rfl (run_assign hS rfl) fun a hS => wl_nil ?_
  refine wpIn_seq ?_
  refine wpIn_region_lit ?_
  refine st_v hS rfl rfl (run_move hS rfl) fun a hS => st_v hS rfl rfl (run_move hS rfl) fun a hS => st_v hS rfl rfl (run_move hS rfl) fun a hS => ?_
  obtain ⟨ad0, s0, hA0, hL0, hR0⟩ := sl_rowB (Hxs _ (Below.refl _ _)) (i := ((x : Nat) : Int)) (j := x) (by omega) (by omega)
  refine st_v hS rfl rfl (run_indexAddr Tryz.underlying23 Tryz.sizeOf22 hS rfl rfl hA0 (by omega) (by omega)) fun a hS => st_v hS rfl rfl (run_load_cell Tryz.isAgg22 hS rfl (hL0 _ hS.below)) fun a hS => st_callv hS rfl rfl (hf) (hp _ hS.below s0 (rowOf xs x) (getD_mem (by omega)) (hR0 _ hS.below)) rfl rfl fun v W a hR hB hlt hS => ?_
  subst hR
  refine wl_nil ?_
  refine st_cond hS rfl (fun hc2 => ?_) (fun hc2 => ?_)
  ·
   try simp only [ty] at hc2
   refine wpIn_seq ?_
   refine wpIn_region_lit ?_
   refine st_v hS rfl rfl (run_move hS rfl) fun a hS => st_v hS rfl rfl (run_assign hS rfl) fun a hS => wl_nil ?_
   refine wpIn_ret ?_
   repeat (first | refine q_ret ?_ | refine q_block_ret ?_)
   refine hS.done (res1 (fn := Tryz.f249) (r1 := .tmp 4) rfl (rv_tmp hS rfl)) ?_
   rw [idxOf_some (d := []) (i := x) (by omega) hg (by assumption)]
  ·
   try simp only [ty] at hc2
   refine wpIn_skip ?_
   refine wpIn_region_lit ?_
   refine st_v hS rfl rfl (run_add (t := ((x + 1 : Nat) : Int)) hS rfl rfl (by omega) (by omega) (by omega)) fun a hS => st_v hS rfl rfl (run_move hS rfl) fun a hS => wl_nil ?_
   refine ⟨x + 1, ⟨⟨by omega, fun j hj => ?_⟩, by omega⟩, (hS.sub (Sub.cons rfl (Sub.cons rfl (Sub.cons rfl (Sub.cons rfl Sub.nil)))))⟩
   by_cases e : j = x
   · subst e; assumption
   · exact hg j (by omega)
 ·
  try simp only [ty] at hc1
  refine wpIn_exit ?_
  refine wpIn_seq ?_
  refine wpIn_region_lit ?_
  refine st_v hS rfl rfl (run_assign hS rfl) fun a hS => wl_nil ?_
  refine wpIn_ret ?_
  repeat (first | refine q_ret ?_ | refine q_block_ret ?_)
  refine hS.done (res1 (fn := Tryz.f249) (r1 := .tmp 4) rfl (rv_tmp hS rfl)) ?_
  rw [idxOf_none (d := []) (fun j hj => hg j (by omega))]


set_option maxHeartbeats 2000000 in
set_option maxRecDepth 100000 in
theorem has_row (sxs : SV) (xs : List (List Int)) (f : FuncId) (cap : List Value) (p : List Int → Bool) {F : Nat → Prop} {w : World} (hxs : Sl kRow F w sxs xs) (hf : Enters Tryz.prog f) (hp : ∀ W, Below w.heap.size w W → ∀ (s' : SV) (row : List Int), row ∈ xs → Sl kInt F W s' row → Ret Tryz.prog f (.slice s'.a row.length s'.c :: cap) W (fun v _ => v = .bool (p row))) : Ret Tryz.prog 229 [.slice sxs.a xs.length sxs.c, .func (.func f) #[] cap.toArray] w (fun v _ => v = .bool (xs.any p)) := by
 refine ret_start (n := 9) Tryz.func229 rfl rfl rfl (fun a hS => ?_)
 have Hxs : ∀ W, Below w.heap.size w W → Sl kRow F W sxs xs := fun W hb => hxs.at_ hb
 have hmxs := hxs.len
 refine wpIn_seq ?_
 refine wpIn_region_lit ?_
 refine st_v hS rfl rfl (run_assign hS rfl) fun a hS => wl_nil ?_
 refine wpIn_seq ?_
 refine wpIn_region_lit ?_
 refine st_v hS rfl rfl (run_move hS rfl) fun a hS => st_v hS rfl rfl (run_move hS rfl) fun a hS => st_call (idx_row sxs xs f cap p (Hxs _ hS.below) hf (fun W' hb => hp W' (hS.below.trans (hb.mono hS.below.size)))) Tryz.call249 hS rfl rfl rfl fun v W a hR hB hlt hS => ?_
 subst hR
 refine st_v hS rfl rfl (run_bin hS rfl rfl rfl) fun a hS => st_v hS rfl rfl (run_assign hS rfl) fun a hS => wl_nil ?_
 refine wpIn_ret ?_
 repeat (first | refine q_ret ?_ | refine q_block_ret ?_)
 refine hS.done (res1 (fn := Tryz.f229) (r1 := .tmp 4) rfl (rv_tmp hS rfl)) ?_
 rw [idxOf_ge]


set_option maxHeartbeats 2000000 in
set_option maxRecDepth 100000 in
theorem idx_int (sxs : SV) (xs : List Int) (f : FuncId) (cap : List Value) (p : Int → Bool) {F : Nat → Prop} {w : World} (hxs : Sl kInt F w sxs xs) (hf : Enters Tryz.prog f) (hp : ∀ W, Below w.heap.size w W → ∀ x ∈ xs, Ret Tryz.prog f (.int .i64 x :: cap) W (fun v _ => v = .bool (p x))) : Ret Tryz.prog 248 [.slice sxs.a xs.length sxs.c, .func (.func f) #[] cap.toArray] w (fun v _ => v = .int .i64 (idxOf p xs)) := by
 refine ret_start (n := 19) Tryz.func248 rfl rfl rfl (fun a hS => ?_)
 have Hxs : ∀ W, Below w.heap.size w W → Sl kInt F W sxs xs := fun W hb => hxs.at_ hb
 have hmxs := hxs.len
 refine wpIn_seq ?_
 refine wpIn_region_lit ?_
 refine st_v hS rfl rfl (run_assign hS rfl) fun a hS => wl_nil ?_
 refine wpIn_seq ?_
 refine wpIn_seq ?_
 refine wpIn_region_lit ?_
 refine st_v hS rfl rfl (run_move hS rfl) fun a hS => st_v hS rfl rfl (run_len_slice Tryz.underlying22 hS rfl) fun a hS => st_v hS rfl rfl (run_move hS rfl) fun a hS => wl_nil ?_
 refine wpIn_block ?_
 refine st_loop2 (α := Nat) (fun x => [(8, .int .i64 (((x : Nat) : Int)))]) [(0, _), (1, _), (7, _)] (fun l _ => l) (fun x => x ≤ xs.length ∧ ∀ j, j < x → p (xs.getD j 0) = false) (fun x => xs.length - x) (0) hS (Sub.cons rfl (Sub.cons rfl (Sub.cons rfl (Sub.cons rfl Sub.nil)))) rfl (⟨Nat.zero_le _, fun j hj => absurd hj (Nat.not_lt_zero j)⟩) (fun x W a hφ hS => ?_)
 dsimp only [setB, List.cons_append, List.nil_append, List.take] at hS
 obtain ⟨hx, hg⟩ := hφ
 refine wpIn_seq ?_
 refine wpIn_region_lit ?_
 refine st_v hS rfl rfl (run_bin hS rfl rfl rfl) fun a hS => wl_nil ?_
 refine wpIn_seq ?_
 refine st_cond hS rfl (fun hc1 => ?_) (fun hc1 => ?_)
 ·
  try simp only [ty] at hc1
  refine wpIn_skip ?_
  refine wpIn_seq ?_
  refine wpIn_block ?_
  refine wpIn_seq ?_
  refine wpIn_region_lit ?_
  refine st_v hS rfl rfl (run_move hS rfl) fun a hS => st_v hS rfl rfl (run_assign hS rfl) fun a hS => wl_nil ?_
  refine wpIn_seq ?_
  refine wpIn_region_lit ?_
  refine st_v hS rfl rfl (run_move hS rfl) fun a hS => st_v hS rfl rfl (run_move hS rfl) fun a hS => st_v hS rfl rfl (run_move hS rfl) fun a hS => ?_
  obtain ⟨ad0, hA0, hL0⟩ := sl_int Hxs (Below.refl _ _) (i := ((x : Nat) : Int)) (j := x) (by omega) (by omega)
  refine st_v hS rfl rfl (run_indexAddr Tryz.underlying22 Tryz.sizeOf3 hS rfl rfl hA0 (by omega) (by omega)) fun a hS => st_v hS rfl rfl (run_load_cell Tryz.isAgg3 hS rfl (hL0 _ hS.below)) fun a hS => st_callv hS rfl rfl (hf) (hp _ hS.below (ix xs x) (getD_mem (by omega))) rfl rfl fun v W a hR hB hlt hS => ?_
  subst hR
  refine wl_nil ?_
  refine st_cond hS rfl (fun hc2 => ?_) (fun hc2 => ?_)
  ·
   try simp only [ty] at hc2
   refine wpIn_seq ?_
   refine wpIn_region_lit ?_
   refine st_v hS rfl rfl (run_move hS rfl) fun a hS => st_v hS rfl rfl (run_assign hS rfl) fun a hS => wl_nil ?_
   refine wpIn_ret ?_
   repeat (first | refine q_ret ?_ | refine q_block_ret ?_)
   refine hS.done (res1 (fn := Tryz.f248) (r1 := .tmp 4) rfl (rv_tmp hS rfl)) ?_
   rw [idxOf_some (d := 0) (i := x) (by omega) hg (by assumption)]
  ·
   try simp only [ty] at hc2
   refine wpIn_skip ?_
   refine wpIn_region_lit ?_
   refine st_v hS rfl rfl (run_add (t := ((x + 1 : Nat) : Int)) hS rfl rfl (by omega) (by omega) (by omega)) fun a hS => st_v hS rfl rfl (run_move hS rfl) fun a hS => wl_nil ?_
   refine ⟨x + 1, ⟨⟨by omega, fun j hj => ?_⟩, by omega⟩, (hS.sub (Sub.cons rfl (Sub.cons rfl (Sub.cons rfl (Sub.cons rfl Sub.nil)))))⟩
   by_cases e : j = x
   · subst e; assumption
   · exact hg j (by omega)
 ·
  try simp only [ty] at hc1
  refine wpIn_exit ?_
  refine wpIn_seq ?_
  refine wpIn_region_lit ?_
  refine st_v hS rfl rfl (run_assign hS rfl) fun a hS => wl_nil ?_
  refine wpIn_ret ?_
  repeat (first | refine q_ret ?_ | refine q_block_ret ?_)
  refine hS.done (res1 (fn := Tryz.f248) (r1 := .tmp 4) rfl (rv_tmp hS rfl)) ?_
  rw [idxOf_none (d := 0) (fun j hj => hg j (by omega))]


set_option maxHeartbeats 2000000 in
set_option maxRecDepth 100000 in
theorem has_int (sxs : SV) (xs : List Int) (f : FuncId) (cap : List Value) (p : Int → Bool) {F : Nat → Prop} {w : World} (hxs : Sl kInt F w sxs xs) (hf : Enters Tryz.prog f) (hp : ∀ W, Below w.heap.size w W → ∀ x ∈ xs, Ret Tryz.prog f (.int .i64 x :: cap) W (fun v _ => v = .bool (p x))) : Ret Tryz.prog 227 [.slice sxs.a xs.length sxs.c, .func (.func f) #[] cap.toArray] w (fun v _ => v = .bool (xs.any p)) := by
 refine ret_start (n := 9) Tryz.func227 rfl rfl rfl (fun a hS => ?_)
 have Hxs : ∀ W, Below w.heap.size w W → Sl kInt F W sxs xs := fun W hb => hxs.at_ hb
 have hmxs := hxs.len
 refine wpIn_seq ?_
 refine wpIn_region_lit ?_
 refine st_v hS rfl rfl (run_assign hS rfl) fun a hS => wl_nil ?_
 refine wpIn_seq ?_
 refine wpIn_region_lit ?_
 refine st_v hS rfl rfl (run_move hS rfl) fun a hS => st_v hS rfl rfl (run_move hS rfl) fun a hS => st_call (idx_int sxs xs f cap p (Hxs _ hS.below) hf (fun W' hb => hp W' (hS.below.trans (hb.mono hS.below.size)))) Tryz.call248 hS rfl rfl rfl fun v W a hR hB hlt hS => ?_
 subst hR
 refine st_v hS rfl rfl (run_bin hS rfl rfl rfl) fun a hS => st_v hS rfl rfl (run_assign hS rfl) fun a hS => wl_nil ?_
 refine wpIn_ret ?_
 repeat (first | refine q_ret ?_ | refine q_block_ret ?_)
 refine hS.done (res1 (fn := Tryz.f227) (r1 := .tmp 4) rfl (rv_tmp hS rfl)) ?_
 rw [idxOf_ge]


set_option maxHeartbeats 2000000 in
set_option maxRecDepth 100000 in
theorem idx_span (sxs : SV) (xs : List Span) (f : FuncId) (cap : List Value) (p : Span → Bool) {F : Nat → Prop} {w : World} (hxs : Sl kSpan F w sxs xs) (hf : Enters Tryz.prog f) (hp : ∀ W, Below w.heap.size w W → ∀ x ∈ xs, Ret Tryz.prog f (.agg (spanC x).toArray :: cap) W (fun v _ => v = .bool (p x))) : Ret Tryz.prog 207 [.slice sxs.a xs.length sxs.c, .func (.func f) #[] cap.toArray] w (fun v _ => v = .int .i64 (idxOf p xs)) := by
 refine ret_start (n := 19) Tryz.func207 rfl rfl rfl (fun a hS => ?_)
 have Hxs : ∀ W, Below w.heap.size w W → Sl kSpan F W sxs xs := fun W hb => hxs.at_ hb
 have hmxs := hxs.len
 refine wpIn_seq ?_
 refine wpIn_region_lit ?_
 refine st_v hS rfl rfl (run_assign hS rfl) fun a hS => wl_nil ?_
 refine wpIn_seq ?_
 refine wpIn_seq ?_
 refine wpIn_region_lit ?_
 refine st_v hS rfl rfl (run_move hS rfl) fun a hS => st_v hS rfl rfl (run_len_slice Tryz.underlying61 hS rfl) fun a hS => st_v hS rfl rfl (run_move hS rfl) fun a hS => wl_nil ?_
 refine wpIn_block ?_
 refine st_loop2 (α := Nat) (fun x => [(8, .int .i64 (((x : Nat) : Int)))]) [(0, _), (1, _), (7, _)] (fun l _ => l) (fun x => x ≤ xs.length ∧ ∀ j, j < x → p (xs.getD j ⟨0, 0⟩) = false) (fun x => xs.length - x) (0) hS (Sub.cons rfl (Sub.cons rfl (Sub.cons rfl (Sub.cons rfl Sub.nil)))) rfl (⟨Nat.zero_le _, fun j hj => absurd hj (Nat.not_lt_zero j)⟩) (fun x W a hφ hS => ?_)
 dsimp only [setB, List.cons_append, List.nil_append, List.take] at hS
 obtain ⟨hx, hg⟩ := hφ
 refine wpIn_seq ?_
 refine wpIn_region_lit ?_
 refine st_v hS rfl rfl (run_bin hS rfl rfl rfl) fun a hS => wl_nil ?_
 refine wpIn_seq ?_
 refine st_cond hS rfl (fun hc1 => ?_) (fun hc1 => ?_)
 ·
  try simp only [ty] at hc1
  refine wpIn_skip ?_
  refine wpIn_seq ?_
  refine wpIn_block ?_
  refine wpIn_seq ?_
  refine wpIn_region_lit ?_
  refine st_v hS rfl rfl (run_move hS rfl) fun a hS => st_v hS rfl rfl (run_assign hS rfl) fun a hS => wl_nil ?_
  refine wpIn_seq ?_
  refine wpIn_region_lit ?_
  refine st_v hS rfl rfl (run_move hS rfl) fun a hS => st_v hS rfl rfl (run_move hS rfl) fun a hS => st_v hS rfl rfl (run_move hS rfl) fun a hS => ?_
  obtain ⟨ad0, hA0, hL0⟩ := sl_span Hxs (Below.refl _ _) (i := ((x : Nat) : Int)) (j := x) (by omega) (by omega)
  refine st_v hS rfl rfl (run_indexAddr Tryz.underlying61 Tryz.sizeOf31 hS rfl rfl hA0 (by omega) (by omega)) fun a hS => st_v hS rfl rfl (run_load_ext Tryz.isAgg31 Tryz.sizeOf31 hS rfl rfl (hL0 _ hS.below)) fun a hS => st_callv hS rfl rfl (hf) (hp _ hS.below (spanAt xs x) (getD_mem (by omega))) rfl rfl fun v W a hR hB hlt hS => ?_
  subst hR
  refine wl_nil ?_
  refine st_cond hS rfl (fun hc2 => ?_) (fun hc2 => ?_)
  ·
   try simp only [ty] at hc2
   refine wpIn_seq ?_
   refine wpIn_region_lit ?_
   refine st_v hS rfl rfl (run_move hS rfl) fun a hS => st_v hS rfl rfl (run_assign hS rfl) fun a hS => wl_nil ?_
   refine wpIn_ret ?_
   repeat (first | refine q_ret ?_ | refine q_block_ret ?_)
   refine hS.done (res1 (fn := Tryz.f207) (r1 := .tmp 4) rfl (rv_tmp hS rfl)) ?_
   rw [idxOf_some (d := ⟨0, 0⟩) (i := x) (by omega) hg (by assumption)]
  ·
   try simp only [ty] at hc2
   refine wpIn_skip ?_
   refine wpIn_region_lit ?_
   refine st_v hS rfl rfl (run_add (t := ((x + 1 : Nat) : Int)) hS rfl rfl (by omega) (by omega) (by omega)) fun a hS => st_v hS rfl rfl (run_move hS rfl) fun a hS => wl_nil ?_
   refine ⟨x + 1, ⟨⟨by omega, fun j hj => ?_⟩, by omega⟩, (hS.sub (Sub.cons rfl (Sub.cons rfl (Sub.cons rfl (Sub.cons rfl Sub.nil)))))⟩
   by_cases e : j = x
   · subst e; assumption
   · exact hg j (by omega)
 ·
  try simp only [ty] at hc1
  refine wpIn_exit ?_
  refine wpIn_seq ?_
  refine wpIn_region_lit ?_
  refine st_v hS rfl rfl (run_assign hS rfl) fun a hS => wl_nil ?_
  refine wpIn_ret ?_
  repeat (first | refine q_ret ?_ | refine q_block_ret ?_)
  refine hS.done (res1 (fn := Tryz.f207) (r1 := .tmp 4) rfl (rv_tmp hS rfl)) ?_
  rw [idxOf_none (d := ⟨0, 0⟩) (fun j hj => hg j (by omega))]


set_option maxHeartbeats 2000000 in
set_option maxRecDepth 100000 in
theorem has_span (sxs : SV) (xs : List Span) (f : FuncId) (cap : List Value) (p : Span → Bool) {F : Nat → Prop} {w : World} (hxs : Sl kSpan F w sxs xs) (hf : Enters Tryz.prog f) (hp : ∀ W, Below w.heap.size w W → ∀ x ∈ xs, Ret Tryz.prog f (.agg (spanC x).toArray :: cap) W (fun v _ => v = .bool (p x))) : Ret Tryz.prog 155 [.slice sxs.a xs.length sxs.c, .func (.func f) #[] cap.toArray] w (fun v _ => v = .bool (xs.any p)) := by
 refine ret_start (n := 9) Tryz.func155 rfl rfl rfl (fun a hS => ?_)
 have Hxs : ∀ W, Below w.heap.size w W → Sl kSpan F W sxs xs := fun W hb => hxs.at_ hb
 have hmxs := hxs.len
 refine wpIn_seq ?_
 refine wpIn_region_lit ?_
 refine st_v hS rfl rfl (run_assign hS rfl) fun a hS => wl_nil ?_
 refine wpIn_seq ?_
 refine wpIn_region_lit ?_
 refine st_v hS rfl rfl (run_move hS rfl) fun a hS => st_v hS rfl rfl (run_move hS rfl) fun a hS => st_call (idx_span sxs xs f cap p (Hxs _ hS.below) hf (fun W' hb => hp W' (hS.below.trans (hb.mono hS.below.size)))) Tryz.call207 hS rfl rfl rfl fun v W a hR hB hlt hS => ?_
 subst hR
 refine st_v hS rfl rfl (run_bin hS rfl rfl rfl) fun a hS => st_v hS rfl rfl (run_assign hS rfl) fun a hS => wl_nil ?_
 refine wpIn_ret ?_
 repeat (first | refine q_ret ?_ | refine q_block_ret ?_)
 refine hS.done (res1 (fn := Tryz.f155) (r1 := .tmp 4) rfl (rv_tmp hS rfl)) ?_
 rw [idxOf_ge]


set_option maxHeartbeats 2000000 in
set_option maxRecDepth 100000 in
theorem spans_ct1  {x : Int} {w : World}   : Ret Tryz.prog 225 [.int .i64 x] w (fun v _ => v = .bool (!(within x (-1000000) 1000000))) := by
 refine ret_start (n := 6) Tryz.func225 rfl rfl rfl (fun a hS => ?_)
 refine wpIn_seq ?_
 refine wpIn_region_lit ?_
 refine st_v hS rfl rfl (run_assign hS rfl) fun a hS => wl_nil ?_
 refine wpIn_seq ?_
 refine wpIn_region_lit ?_
 refine st_v hS rfl rfl (run_move hS rfl) fun a hS => st_call (spans_within) Tryz.call209 hS rfl rfl rfl fun v W a hR hB hlt hS => ?_
 subst hR
 refine st_v hS rfl rfl (run_not hS rfl) fun a hS => st_v hS rfl rfl (run_assign hS rfl) fun a hS => wl_nil ?_
 refine wpIn_ret ?_
 repeat (first | refine q_ret ?_ | refine q_block_ret ?_)
 refine hS.done (res1 (fn := Tryz.f225) (r1 := .tmp 2) rfl (rv_tmp hS rfl)) ?_
 rfl


set_option maxHeartbeats 2000000 in
set_option maxRecDepth 100000 in
theorem spans_ct2 {Vt : TV} {t : Tab} {Ft : Nat → Prop} (srow : SV) (row : List Int) (pc1 : Addr) (pc2 : Addr) {w : World} {Frow : Nat → Prop} (hrow : Sl kInt Frow w srow row) (hc1 : CellsAt w pc1 (tabC Vt t)) (hc2 : w.cell? pc2 = some (.func (.func 225) #[] #[])) (ht : TabR Ft w Vt t) : Ret Tryz.prog 226 [.slice srow.a row.length srow.c, .pointer (some pc1), .pointer (some pc2)] w (fun v _ => v = .bool (!(rowGood t row))) := by
 refine ret_start (n := 16) Tryz.func226 rfl rfl rfl (fun a hS => ?_)
 have Hrow : ∀ W, Below w.heap.size w W → Sl kInt Frow W srow row := fun W hb => hrow.at_ hb
 have hmrow := hrow.len
 have Hc1 : ∀ W, Below w.heap.size w W → CellsAt W pc1 (tabC Vt t) := fun W hb => hc1.at_ hb
 have Hc2 : ∀ W, Below w.heap.size w W → W.cell? pc2 = some (.func (.func 225) #[] #[]) := fun W hb => cell_at hc2 hb
 have Htt : ∀ W, Below w.heap.size w W → TabR Ft W Vt t := fun W hb => ht.move (keep_of hb)
 refine wpIn_seq ?_
 refine wpIn_region_lit ?_
 refine st_v hS rfl rfl (run_assign hS rfl) fun a hS => wl_nil ?_
 refine wpIn_seq ?_
 refine wpIn_region_lit ?_
 refine st_v hS rfl rfl (run_move hS rfl) fun a hS => st_v hS rfl rfl (run_len_slice Tryz.underlying22 hS rfl) fun a hS => st_v hS rfl rfl (run_fieldAddrE fe25_1 hS rfl) fun a hS => st_v hS rfl rfl (run_load_cell Tryz.isAgg22 hS rfl (Hc1 _ hS.below 1 _ rfl)) fun a hS => st_v hS rfl rfl (run_len_slice Tryz.underlying22 hS rfl) fun a hS => st_v hS rfl rfl (run_bin hS rfl rfl rfl) fun a hS => st_v hS rfl rfl (run_move hS rfl) fun a hS => ?_
 refine st_split (d := 11) hS rfl (fun hc1 hS => ?_) (fun hc1 hS => ?_)
 ·
  try simp only [ty] at hc1
  refine st_skip hS (hS.unwanted rfl rfl rfl rfl) rfl fun a hS => st_skip hS (hS.unwanted rfl rfl rfl rfl) rfl fun a hS => st_skip hS (hS.unwanted rfl rfl rfl rfl) rfl fun a hS => st_v hS rfl rfl (run_pick_t hS rfl rfl) fun a hS => st_v hS rfl rfl (run_assign hS rfl) fun a hS => wl_nil ?_
  refine wpIn_ret ?_
  repeat (first | refine q_ret ?_ | refine q_block_ret ?_)
  refine hS.done (res1 (fn := Tryz.f226) (r1 := .tmp 4) rfl (rv_tmp hS rfl)) ?_
  refine vb ?_; simp only [rowGood, Bool.not_eq_true', Bool.and_eq_false_iff, decide_eq_false_iff_not, List.all_eq_not_any_not, Bool.not_eq_false', Bool.not_eq_true]; first | (simp only [hc1]; simp; omega) | (simp; omega)
 ·
  try simp only [ty] at hc1
  refine st_v hS (hS.wanted rfl rfl rfl) rfl (run_move hS rfl) fun a hS => st_v hS (hS.wanted rfl rfl rfl) rfl (run_load_cell Tryz.isAgg187 hS rfl (Hc2 _ hS.below)) fun a hS => st_call (has_int srow row 225 [] (fun x => !(within x (-1000000) 1000000)) (Hrow _ hS.below) Tryz.call225 (fun W' hb x hx => spans_ct1)) Tryz.call227 hS (hS.wanted rfl rfl rfl) rfl rfl fun v W a hR hB hlt hS => ?_
  subst hR
  refine st_v hS rfl rfl (run_pick_f hS rfl rfl) fun a hS => st_v hS rfl rfl (run_assign hS rfl) fun a hS => wl_nil ?_
  refine wpIn_ret ?_
  repeat (first | refine q_ret ?_ | refine q_block_ret ?_)
  refine hS.done (res1 (fn := Tryz.f226) (r1 := .tmp 4) rfl (rv_tmp hS rfl)) ?_
  refine vb ?_; simp only [rowGood, Bool.not_eq_true', Bool.and_eq_false_iff, decide_eq_false_iff_not, List.all_eq_not_any_not, Bool.not_eq_false', Bool.not_eq_true]; first | (simp only [hc1]; simp; omega) | (simp; omega)


set_option maxHeartbeats 2000000 in
set_option maxRecDepth 100000 in
theorem spans_CheckTable  (Vt : TV) (t : Tab) {w : World} {Ft : Nat → Prop} (ht : TabR Ft w Vt t)  : Ret Tryz.prog 186 [.agg (tabC Vt t).toArray] w (fun v _ => v = .int .i64 (if tabOk t then 0 else 11)) := by
 refine ret_start (n := 31) Tryz.func186 rfl rfl rfl (fun a hS => ?_)
 have Ht : ∀ W, Below w.heap.size w W → TabR Ft W Vt t := fun W hb => ht.move (keep_of hb)
 have hmtx := ht.1.len
 have hmty := ht.2.1.len
 have hmtv := ht.2.2.len
 refine wpIn_seq ?_
 refine wpIn_region_lit ?_
 refine st_box_agg hS rfl rfl rfl fun W a b0 hS => st_v hS rfl rfl (run_assign hS rfl) fun a hS => wl_nil ?_
 refine wpIn_seq ?_
 refine wpIn_region_lit ?_
 refine st_alloc_one Tryz.zeroValue187 rfl hS rfl rfl fun W a b1 hS => st_store (i := 0) Tryz.sizeOf187 hS rfl rfl rfl rfl rfl rfl rfl rfl rfl fun W a hS => wl_nil ?_
 refine wpIn_seq ?_
 refine wpIn_region_lit ?_
 refine st_v hS rfl rfl (run_makeFunc hS rfl rfl) fun a hS => st_v hS rfl rfl (run_assign hS rfl) fun a hS => wl_nil ?_
 refine wpIn_seq ?_
 refine wpIn_seq ?_
 refine wpIn_region_lit ?_
 refine st_v hS rfl rfl (run_fieldAddr fa25_0 hS rfl) fun a hS => st_v hS rfl rfl (run_load_one (i := 1) Tryz.isAgg22 hS rfl rfl rfl) fun a hS => st_call (spans_axis Vt.x t.X ((fun W hC => (Ht W hC).1) _ hS.below)) Tryz.call228 hS rfl rfl rfl fun v W a hR hB hlt hS => ?_
 subst hR
 refine st_v hS rfl rfl (run_not hS rfl) fun a hS => st_v hS rfl rfl (run_move hS rfl) fun a hS => ?_
 refine st_split (d := 10) hS rfl (fun hc1 hS => ?_) (fun hc1 hS => ?_)
 ·
  try simp only [ty] at hc1
  refine st_skip hS (hS.unwanted rfl rfl rfl rfl) rfl fun a hS => st_skip hS (hS.unwanted rfl rfl rfl rfl) rfl fun a hS => st_skip hS (hS.unwanted rfl rfl rfl rfl) rfl fun a hS => st_skip hS (hS.unwanted rfl rfl rfl rfl) rfl fun a hS => st_v hS rfl rfl (run_pick_t hS rfl rfl) fun a hS => st_v hS rfl rfl (run_move hS rfl) fun a hS => st_skip hS (hS.unwanted rfl rfl rfl rfl) rfl fun a hS => st_skip hS (hS.unwanted rfl rfl rfl rfl) rfl fun a hS => st_skip hS (hS.unwanted rfl rfl rfl rfl) rfl fun a hS => st_skip hS (hS.unwanted rfl rfl rfl rfl) rfl fun a hS => st_skip hS (hS.unwanted rfl rfl rfl rfl) rfl fun a hS => st_skip hS (hS.unwanted rfl rfl rfl rfl) rfl fun a hS => st_skip hS (hS.unwanted rfl rfl rfl rfl) rfl fun a hS => st_v hS rfl rfl (run_pick_t hS rfl rfl) fun a hS => st_v hS rfl rfl (run_move hS rfl) fun a hS => st_skip hS (hS.unwanted rfl rfl rfl rfl) rfl fun a hS => st_skip hS (hS.unwanted rfl rfl rfl rfl) rfl fun a hS => st_skip hS (hS.unwanted rfl rfl rfl rfl) rfl fun a hS => st_skip hS (hS.unwanted rfl rfl rfl rfl) rfl fun a hS => st_v hS rfl rfl (run_pick_t hS rfl rfl) fun a hS => wl_nil ?_
  have hS := hS.sub (κ' := [(0, _), (1, _), (2, _), (3, _), (4, _), (30, _)]) (Sub.cons rfl (Sub.cons rfl (Sub.cons rfl (Sub.cons rfl (Sub.cons rfl (Sub.cons rfl Sub.nil))))))
  refine st_cond_t hS rfl ?_
  refine wpIn_seq ?_
  refine wpIn_region_lit ?_
  refine st_v hS rfl rfl (run_assign hS rfl) fun a hS => wl_nil ?_
  refine wpIn_ret ?_
  repeat (first | refine q_ret ?_ | refine q_block_ret ?_)
  refine hS.done (res1 (fn := Tryz.f186) (r1 := .tmp 2) rfl (rv_tmp hS rfl)) ?_
  simp only [tabOk_eq, List.all_eq_not_any_not, hc1]; simp; try omega
 ·
  try simp only [ty] at hc1
  refine st_v hS (hS.wanted rfl rfl rfl) rfl (run_fieldAddr fa25_1 hS rfl) fun a hS => st_v hS (hS.wanted rfl rfl rfl) rfl (run_load_one (i := 1) Tryz.isAgg22 hS rfl rfl rfl) fun a hS => st_call (spans_axis Vt.y t.Y ((fun W hC => (Ht W hC).2.1) _ hS.below)) Tryz.call228 hS (hS.wanted rfl rfl rfl) rfl rfl fun v W a hR hB hlt hS => ?_
  subst hR
  refine st_v hS (hS.wanted rfl rfl rfl) rfl (run_not hS rfl) fun a hS => st_v hS rfl rfl (run_pick_f hS rfl rfl) fun a hS => st_v hS rfl rfl (run_move hS rfl) fun a hS => ?_
  refine st_split (d := 16) hS rfl (fun hc2 hS => ?_) (fun hc2 hS => ?_)
  ·
   try simp only [ty] at hc2
   refine st_skip hS (hS.unwanted rfl rfl rfl rfl) rfl fun a hS => st_skip hS (hS.unwanted rfl rfl rfl rfl) rfl fun a hS => st_skip hS (hS.unwanted rfl rfl rfl rfl) rfl fun a hS => st_skip hS (hS.unwanted rfl rfl rfl rfl) rfl fun a hS => st_skip hS (hS.unwanted rfl rfl rfl rfl) rfl fun a hS => st_skip hS (hS.unwanted rfl rfl rfl rfl) rfl fun a hS => st_skip hS (hS.unwanted rfl rfl rfl rfl) rfl fun a hS => st_v hS rfl rfl (run_pick_t hS rfl rfl) fun a hS => st_v hS rfl rfl (run_move hS rfl) fun a hS => st_skip hS (hS.unwanted rfl rfl rfl rfl) rfl fun a hS => st_skip hS (hS.unwanted rfl rfl rfl rfl) rfl fun a hS => st_skip hS (hS.unwanted rfl rfl rfl rfl) rfl fun a hS => st_skip hS (hS.unwanted rfl rfl rfl rfl) rfl fun a hS => st_v hS rfl rfl (run_pick_t hS rfl rfl) fun a hS => wl_nil ?_
   have hS := hS.sub (κ' := [(0, _), (1, _), (2, _), (3, _), (4, _), (30, _)]) (Sub.cons rfl (Sub.cons rfl (Sub.cons rfl (Sub.cons rfl (Sub.cons rfl (Sub.cons rfl Sub.nil))))))
   refine st_cond_t hS rfl ?_
   refine wpIn_seq ?_
   refine wpIn_region_lit ?_
   refine st_v hS rfl rfl (run_assign hS rfl) fun a hS => wl_nil ?_
   refine wpIn_ret ?_
   repeat (first | refine q_ret ?_ | refine q_block_ret ?_)
   refine hS.done (res1 (fn := Tryz.f186) (r1 := .tmp 2) rfl (rv_tmp hS rfl)) ?_
   simp only [tabOk_eq, List.all_eq_not_any_not, hc1, hc2]; simp; try omega
  ·
   try simp only [ty] at hc2
   refine st_v hS (hS.wanted rfl rfl rfl) rfl (run_fieldAddr fa25_2 hS rfl) fun a hS => st_v hS (hS.wanted rfl rfl rfl) rfl (run_load_one (i := 1) Tryz.isAgg23 hS rfl rfl rfl) fun a hS => st_v hS (hS.wanted rfl rfl rfl) rfl (run_len_slice Tryz.underlying23 hS rfl) fun a hS => st_v hS (hS.wanted rfl rfl rfl) rfl (run_fieldAddr fa25_0 hS rfl) fun a hS => st_v hS (hS.wanted rfl rfl rfl) rfl (run_load_one (i := 1) Tryz.isAgg22 hS rfl rfl rfl) fun a hS => st_v hS (hS.wanted rfl rfl rfl) rfl (run_len_slice Tryz.underlying22 hS rfl) fun a hS => st_v hS (hS.wanted rfl rfl rfl) rfl (run_bin hS rfl rfl rfl) fun a hS => st_v hS rfl rfl (run_pick_f hS rfl rfl) fun a hS => st_v hS rfl rfl (run_move hS rfl) fun a hS => ?_
   refine st_split (d := 25) hS rfl (fun hc3 hS => ?_) (fun hc3 hS => ?_)
   ·
    try simp only [ty] at hc3
    refine st_skip hS (hS.unwanted rfl rfl rfl rfl) rfl fun a hS => st_skip hS (hS.unwanted rfl rfl rfl rfl) rfl fun a hS => st_skip hS (hS.unwanted rfl rfl rfl rfl) rfl fun a hS => st_skip hS (hS.unwanted rfl rfl rfl rfl) rfl fun a hS => st_v hS rfl rfl (run_pick_t hS rfl rfl) fun a hS => wl_nil ?_
    have hS := hS.sub (κ' := [(0, _), (1, _), (2, _), (3, _), (4, _), (30, _)]) (Sub.cons rfl (Sub.cons rfl (Sub.cons rfl (Sub.cons rfl (Sub.cons rfl (Sub.cons rfl Sub.nil))))))
    refine st_cond_t hS rfl ?_
    refine wpIn_seq ?_
    refine wpIn_region_lit ?_
    refine st_v hS rfl rfl (run_assign hS rfl) fun a hS => wl_nil ?_
    refine wpIn_ret ?_
    repeat (first | refine q_ret ?_ | refine q_block_ret ?_)
    refine hS.done (res1 (fn := Tryz.f186) (r1 := .tmp 2) rfl (rv_tmp hS rfl)) ?_
    simp only [tabOk_eq, List.all_eq_not_any_not, hc1, hc2, hc3]; simp; try omega
   ·
    try simp only [ty] at hc3
    refine st_v hS (hS.wanted rfl rfl rfl) rfl (run_fieldAddr fa25_2 hS rfl) fun a hS => st_v hS (hS.wanted rfl rfl rfl) rfl (run_load_one (i := 1) Tryz.isAgg23 hS rfl rfl rfl) fun a hS => st_v hS (hS.wanted rfl rfl rfl) rfl (run_move hS rfl) fun a hS => st_call (has_row Vt.v t.V 226 [.pointer (some ⟨b0, 0, none⟩), .pointer (some ⟨b1, 0, none⟩)] (fun row => !(rowGood t row)) (Ht _ hS.below).2.2 Tryz.call226 (fun W' hb s' row hm hrow => spans_ct2 s' row _ _ hrow (hS.cells (i := 1) rfl _ hb) (hS.cell0 (i := 0) rfl _ hb) (ht.move (keep_of (hS.below.trans (hb.mono hS.below.size)))))) Tryz.call229 hS (hS.wanted rfl rfl rfl) rfl rfl fun v W a hR hB hlt hS => ?_
    subst hR
    refine st_v hS rfl rfl (run_pick_f hS rfl rfl) fun a hS => wl_nil ?_
    have hS := hS.sub (κ' := [(0, _), (1, _), (2, _), (3, _), (4, _), (30, _)]) (Sub.cons rfl (Sub.cons rfl (Sub.cons rfl (Sub.cons rfl (Sub.cons rfl (Sub.cons rfl Sub.nil))))))
    refine st_cond hS rfl (fun hc4 => ?_) (fun hc4 => ?_)
    ·
     try simp only [ty] at hc4
     refine wpIn_seq ?_
     refine wpIn_region_lit ?_
     refine st_v hS rfl rfl (run_assign hS rfl) fun a hS => wl_nil ?_
     refine wpIn_ret ?_
     repeat (first | refine q_ret ?_ | refine q_block_ret ?_)
     refine hS.done (res1 (fn := Tryz.f186) (r1 := .tmp 2) rfl (rv_tmp hS rfl)) ?_
     simp only [tabOk_eq, List.all_eq_not_any_not, hc1, hc2, hc3, hc4]; simp; try omega
    ·
     try simp only [ty] at hc4
     refine wpIn_skip ?_
     refine wpIn_seq ?_
     refine wpIn_region_lit ?_
     refine st_v hS rfl rfl (run_assign hS rfl) fun a hS => wl_nil ?_
     refine wpIn_ret ?_
     repeat (first | refine q_ret ?_ | refine q_block_ret ?_)
     refine hS.done (res1 (fn := Tryz.f186) (r1 := .tmp 2) rfl (rv_tmp hS rfl)) ?_
     simp only [tabOk_eq, List.all_eq_not_any_not, hc1, hc2, hc3, hc4]; simp; try omega


set_option maxHeartbeats 2000000 in
set_option maxRecDepth 100000 in
theorem spans_sp1  (p : Span) {w : World}   : Ret Tryz.prog 230 [.agg (spanC p).toArray] w (fun v _ => v = .bool (!(p.ok))) := by
 refine ret_start (n := 6) Tryz.func230 rfl rfl rfl (fun a hS => ?_)
 refine wpIn_seq ?_
 refine wpIn_region_lit ?_
 refine st_box_agg hS rfl rfl rfl fun W a b0 hS => st_v hS rfl rfl (run_assign hS rfl) fun a hS => wl_nil ?_
 refine wpIn_seq ?_
 refine wpIn_region_lit ?_
 refine st_v hS rfl rfl (run_load_all (i := 0) Tryz.isAgg31 Tryz.sizeOf31 hS rfl rfl rfl) fun a hS => st_call (spans_valid p) Tryz.call231 hS rfl rfl rfl fun v W a hR hB hlt hS => ?_
 subst hR
 refine st_v hS rfl rfl (run_not hS rfl) fun a hS => st_v hS rfl rfl (run_assign hS rfl) fun a hS => wl_nil ?_
 refine wpIn_ret ?_
 repeat (first | refine q_ret ?_ | refine q_block_ret ?_)
 refine hS.done (res1 (fn := Tryz.f230) (r1 := .tmp 2) rfl (rv_tmp hS rfl)) ?_
 rfl


set_option maxHeartbeats 2000000 in
set_option maxRecDepth 100000 in
theorem spans_spanned  (sxs : SV) (xs : List Span) {w : World} {Fxs : Nat → Prop} (hxs : Sl kSpan Fxs w sxs xs)  : Ret Tryz.prog 187 [.slice sxs.a xs.length sxs.c] w (fun v _ => v = .int .i64 (if xs.all Span.ok then 0 else 10)) := by
 refine ret_start (n := 5) Tryz.func187 rfl rfl rfl (fun a hS => ?_)
 have Hxs : ∀ W, Below w.heap.size w W → Sl kSpan Fxs W sxs xs := fun W hb => hxs.at_ hb
 have hmxs := hxs.len
 refine wpIn_seq ?_
 refine wpIn_region_lit ?_
 refine st_v hS rfl rfl (run_assign hS rfl) fun a hS => wl_nil ?_
 refine wpIn_seq ?_
 refine wpIn_seq ?_
 refine wpIn_region_lit ?_
 refine st_v hS rfl rfl (run_move hS rfl) fun a hS => st_call (has_span sxs xs 230 [] (fun p => !(p.ok)) (Hxs _ hS.below) Tryz.call230 (fun W' hb x hx => spans_sp1 _)) Tryz.call155 hS rfl rfl rfl fun v W a hR hB hlt hS => ?_
 subst hR
 refine wl_nil ?_
 refine st_cond hS rfl (fun hc1 => ?_) (fun hc1 => ?_)
 ·
  try simp only [ty] at hc1
  refine wpIn_seq ?_
  refine wpIn_region_lit ?_
  refine st_v hS rfl rfl (run_assign hS rfl) fun a hS => wl_nil ?_
  refine wpIn_ret ?_
  repeat (first | refine q_ret ?_ | refine q_block_ret ?_)
  refine hS.done (res1 (fn := Tryz.f187) (r1 := .tmp 2) rfl (rv_tmp hS rfl)) ?_
  rw [List.all_eq_not_any_not]; simp [hc1]
 ·
  try simp only [ty] at hc1
  refine wpIn_skip ?_
  refine wpIn_seq ?_
  refine wpIn_region_lit ?_
  refine st_v hS rfl rfl (run_assign hS rfl) fun a hS => wl_nil ?_
  refine wpIn_ret ?_
  repeat (first | refine q_ret ?_ | refine q_block_ret ?_)
  refine hS.done (res1 (fn := Tryz.f187) (r1 := .tmp 2) rfl (rv_tmp hS rfl)) ?_
  rw [List.all_eq_not_any_not]; simp [hc1]


set_option maxHeartbeats 2000000 in
set_option maxRecDepth 100000 in
theorem spans_Check  (sxs : SV) (xs : List Span) {w : World} {Fxs : Nat → Prop} (hxs : Sl kSpan Fxs w sxs xs)  : Ret Tryz.prog 159 [.slice sxs.a xs.length sxs.c] w (fun v _ => v = .int .i64 (if within xs.length 1 3 && xs.all Span.ok then 0 else 10)) := by
 refine ret_start (n := 9) Tryz.func159 rfl rfl rfl (fun a hS => ?_)
 have Hxs : ∀ W, Below w.heap.size w W → Sl kSpan Fxs W sxs xs := fun W hb => hxs.at_ hb
 have hmxs := hxs.len
 refine wpIn_seq ?_
 refine wpIn_region_lit ?_
 refine st_v hS rfl rfl (run_assign hS rfl) fun a hS => wl_nil ?_
 refine wpIn_seq ?_
 refine wpIn_seq ?_
 refine wpIn_region_lit ?_
 refine st_v hS rfl rfl (run_move hS rfl) fun a hS => st_v hS rfl rfl (run_len_slice Tryz.underlying62 hS rfl) fun a hS => st_call (spans_within) Tryz.call209 hS rfl rfl rfl fun v W a hR hB hlt hS => ?_
 subst hR
 refine st_v hS rfl rfl (run_not hS rfl) fun a hS => wl_nil ?_
 refine st_cond hS rfl (fun hc1 => ?_) (fun hc1 => ?_)
 ·
  try simp only [ty] at hc1
  refine wpIn_seq ?_
  refine wpIn_region_lit ?_
  refine st_v hS rfl rfl (run_assign hS rfl) fun a hS => wl_nil ?_
  refine wpIn_ret ?_
  repeat (first | refine q_ret ?_ | refine q_block_ret ?_)
  refine hS.done (res1 (fn := Tryz.f159) (r1 := .tmp 2) rfl (rv_tmp hS rfl)) ?_
  simp [hc1]
 ·
  try simp only [ty] at hc1
  refine wpIn_skip ?_
  refine wpIn_seq ?_
  refine wpIn_region_lit ?_
  refine st_v hS rfl rfl (run_move hS rfl) fun a hS => st_call (spans_spanned sxs xs (Hxs _ hS.below)) Tryz.call187 hS rfl rfl rfl fun v W a hR hB hlt hS => ?_
  subst hR
  refine st_v hS rfl rfl (run_assign hS rfl) fun a hS => wl_nil ?_
  refine wpIn_ret ?_
  repeat (first | refine q_ret ?_ | refine q_block_ret ?_)
  refine hS.done (res1 (fn := Tryz.f159) (r1 := .tmp 2) rfl (rv_tmp hS rfl)) ?_
  simp [hc1]


set_option maxHeartbeats 2000000 in
set_option maxRecDepth 100000 in
theorem spans_checkPoints  (Vt : TV) (t : Tab) (p : Span) (q : Span) {w : World} {Ft : Nat → Prop} (ht : TabR Ft w Vt t)  : Ret Tryz.prog 116 [.agg (tabC Vt t).toArray, .agg (spanC p).toArray, .agg (spanC q).toArray] w (fun v _ => v = .int .i64 (if tabOk t then (if p.ok && q.ok then (if liesT t p q then 0 else 1) else 10) else 11)) := by
 refine ret_start (n := 33) Tryz.func116 rfl rfl rfl (fun a hS => ?_)
 have Ht : ∀ W, Below w.heap.size w W → TabR Ft W Vt t := fun W hb => ht.move (keep_of hb)
 have hmtx := ht.1.len
 have hmty := ht.2.1.len
 have hmtv := ht.2.2.len
 refine wpIn_seq ?_
 refine wpIn_region_lit ?_
 refine st_box_agg hS rfl rfl rfl fun W a b0 hS => st_box_agg hS rfl rfl rfl fun W a b1 hS => st_box_agg hS rfl rfl rfl fun W a b2 hS => st_v hS rfl rfl (run_assign hS rfl) fun a hS => wl_nil ?_
 refine wpIn_seq ?_
 refine wpIn_seq ?_
 refine wpIn_region_lit ?_
 refine st_v hS rfl rfl (run_load_all (i := 2) Tryz.isAgg25 Tryz.sizeOf25 hS rfl rfl rfl) fun a hS => st_call (spans_CheckTable Vt t (Ht _ hS.below)) Tryz.call186 hS rfl rfl rfl fun v W a hR hB hlt hS => ?_
 subst hR
 refine st_v hS rfl rfl (run_assign hS rfl) fun a hS => wl_nil ?_
 refine wpIn_seq ?_
 refine wpIn_region_lit ?_
 refine st_v hS rfl rfl (run_move hS rfl) fun a hS => st_v hS rfl rfl (run_bin hS rfl rfl rfl) fun a hS => wl_nil ?_
 refine st_cond hS rfl (fun hc1 => ?_) (fun hc1 => ?_)
 ·
  try simp only [ty] at hc1
  refine wpIn_seq ?_
  refine wpIn_region_lit ?_
  refine st_v hS rfl rfl (run_move hS rfl) fun a hS => st_v hS rfl rfl (run_assign hS rfl) fun a hS => wl_nil ?_
  refine wpIn_ret ?_
  repeat (first | refine q_ret ?_ | refine q_block_ret ?_)
  refine hS.done (res1 (fn := Tryz.f116) (r1 := .tmp 6) rfl (rv_tmp hS rfl)) ?_
  split at hc1 <;> simp_all
 ·
  try simp only [ty] at hc1
  refine wpIn_skip ?_
  refine wpIn_seq ?_
  refine wpIn_seq ?_
  refine wpIn_region_lit ?_
  refine st_v hS rfl rfl (run_load_all (i := 1) Tryz.isAgg31 Tryz.sizeOf31 hS rfl rfl rfl) fun a hS => st_v hS rfl rfl (run_load_all (i := 0) Tryz.isAgg31 Tryz.sizeOf31 hS rfl rfl rfl) fun a hS => st_buildSlice (pv := [(0, .agg #[.int .i64 _, .int .i64 _]), (1, .agg #[.int .i64 _, .int .i64 _])]) (fun W => bs61_2_0_1 _ _ _ _ W) hS rfl rfl rfl fun W a b3 hS => st_call (spans_spanned (⟨some ⟨b3, 0, none⟩, 2⟩ : SV) [p, q] (own_sl_of (dk := kSpan) (enc := spanC) (xs := [p, q]) (fun _ _ _ => rfl) hS (i := 0) rfl (Nat.le_of_ble_eq_true rfl))) Tryz.call187 hS rfl rfl rfl fun v W a hR hB hlt hS => ?_
  subst hR
  refine st_v hS rfl rfl (run_assign hS rfl) fun a hS => wl_nil ?_
  refine wpIn_seq ?_
  refine wpIn_region_lit ?_
  refine st_v hS rfl rfl (run_move hS rfl) fun a hS => st_v hS rfl rfl (run_bin hS rfl rfl rfl) fun a hS => wl_nil ?_
  refine st_cond hS rfl (fun hc2 => ?_) (fun hc2 => ?_)
  ·
   try simp only [ty] at hc2
   refine wpIn_seq ?_
   refine wpIn_region_lit ?_
   refine st_v hS rfl rfl (run_move hS rfl) fun a hS => st_v hS rfl rfl (run_assign hS rfl) fun a hS => wl_nil ?_
   refine wpIn_ret ?_
   repeat (first | refine q_ret ?_ | refine q_block_ret ?_)
   refine hS.done (res1 (fn := Tryz.f116) (r1 := .tmp 6) rfl (rv_tmp hS rfl)) ?_
   have hok : tabOk t = true := by
     cases h : tabOk t <;> simp [h] at hc1 ⊢
   rw [if_pos hok]; simp at hc2 ⊢; cases h1 : p.ok <;> cases h2 : q.ok <;> simp [h1, h2] at hc2 ⊢
  ·
   try simp only [ty] at hc2
   have hok : tabOk t = true := by
     cases h : tabOk t <;> simp [h] at hc1 ⊢
   obtain ⟨hX, hY, _, _⟩ := tab_axes hok
   have := hX.two; have := hY.two
   refine wpIn_skip ?_
   refine wpIn_seq ?_
   refine wpIn_seq ?_
   refine wpIn_region_lit ?_
   refine st_v hS rfl rfl (run_fieldAddr fa25_0 hS rfl) fun a hS => st_v hS rfl rfl (run_load_one (i := 3) Tryz.isAgg22 hS rfl rfl rfl) fun a hS => st_v hS rfl rfl (run_load_all (i := 2) Tryz.isAgg31 Tryz.sizeOf31 hS rfl rfl rfl) fun a hS => st_call (spans_lies Vt.x t.X p ((fun W hC => (Ht W hC).1) _ hS.below) (by omega)) Tryz.call188 hS rfl rfl rfl fun v W a hR hB hlt hS => ?_
   subst hR
   refine st_v hS rfl rfl (run_not hS rfl) fun a hS => st_v hS rfl rfl (run_move hS rfl) fun a hS => ?_
   refine st_split (d := 26) hS rfl (fun hc3 hS => ?_) (fun hc3 hS => ?_)
   ·
    try simp only [ty] at hc3
    refine st_skip hS (hS.unwanted rfl rfl rfl rfl) rfl fun a hS => st_skip hS (hS.unwanted rfl rfl rfl rfl) rfl fun a hS => st_skip hS (hS.unwanted rfl rfl rfl rfl) rfl fun a hS => st_skip hS (hS.unwanted rfl rfl rfl rfl) rfl fun a hS => st_skip hS (hS.unwanted rfl rfl rfl rfl) rfl fun a hS => st_v hS rfl rfl (run_pick_t hS rfl rfl) fun a hS => wl_nil ?_
    refine st_cond_t hS rfl ?_
    refine wpIn_seq ?_
    refine wpIn_region_lit ?_
    refine st_v hS rfl rfl (run_assign hS rfl) fun a hS => wl_nil ?_
    refine wpIn_ret ?_
    repeat (first | refine q_ret ?_ | refine q_block_ret ?_)
    refine hS.done (res1 (fn := Tryz.f116) (r1 := .tmp 6) rfl (rv_tmp hS rfl)) ?_
    have hpq : (p.ok && q.ok) = true := by
      simp at hc2; cases h1 : p.ok <;> cases h2 : q.ok <;> simp [h1, h2] at hc2 ⊢
    rw [if_pos hok, if_pos hpq]; simp [liesT, hc1, hc2, hc3]
   ·
    try simp only [ty] at hc3
    refine st_v hS (hS.wanted rfl rfl rfl) rfl (run_fieldAddr fa25_1 hS rfl) fun a hS => st_v hS (hS.wanted rfl rfl rfl) rfl (run_load_one (i := 3) Tryz.isAgg22 hS rfl rfl rfl) fun a hS => st_v hS (hS.wanted rfl rfl rfl) rfl (run_load_all (i := 1) Tryz.isAgg31 Tryz.sizeOf31 hS rfl rfl rfl) fun a hS => st_call (spans_lies Vt.y t.Y q ((fun W hC => (Ht W hC).2.1) _ hS.below) (by omega)) Tryz.call188 hS (hS.wanted rfl rfl rfl) rfl rfl fun v W a hR hB hlt hS => ?_
    subst hR
    refine st_v hS (hS.wanted rfl rfl rfl) rfl (run_not hS rfl) fun a hS => st_v hS rfl rfl (run_pick_f hS rfl rfl) fun a hS => wl_nil ?_
    refine st_cond hS rfl (fun hc4 => ?_) (fun hc4 => ?_)
    ·
     try simp only [ty] at hc4
     refine wpIn_seq ?_
     refine wpIn_region_lit ?_
     refine st_v hS rfl rfl (run_assign hS rfl) fun a hS => wl_nil ?_
     refine wpIn_ret ?_
     repeat (first | refine q_ret ?_ | refine q_block_ret ?_)
     refine hS.done (res1 (fn := Tryz.f116) (r1 := .tmp 6) rfl (rv_tmp hS rfl)) ?_
     have hpq : (p.ok && q.ok) = true := by
       simp at hc2; cases h1 : p.ok <;> cases h2 : q.ok <;> simp [h1, h2] at hc2 ⊢
     rw [if_pos hok, if_pos hpq]; simp [liesT, hc1, hc2, hc3, hc4]
    ·
     try simp only [ty] at hc4
     refine wpIn_skip ?_
     refine wpIn_seq ?_
     refine wpIn_region_lit ?_
     refine st_v hS rfl rfl (run_assign hS rfl) fun a hS => wl_nil ?_
     refine wpIn_ret ?_
     repeat (first | refine q_ret ?_ | refine q_block_ret ?_)
     refine hS.done (res1 (fn := Tryz.f116) (r1 := .tmp 6) rfl (rv_tmp hS rfl)) ?_
     have hpq : (p.ok && q.ok) = true := by
       simp at hc2; cases h1 : p.ok <;> cases h2 : q.ok <;> simp [h1, h2] at hc2 ⊢
     rw [if_pos hok, if_pos hpq]; simp [liesT, hc1, hc2, hc3, hc4]


set_option maxHeartbeats 2000000 in
set_option maxRecDepth 100000 in
theorem cmp_Or  (sxs : SV) (xs : List Int) {w : World} {Fxs : Nat → Prop} (hxs : Sl kInt Fxs w sxs xs)  : Ret Tryz.prog 235 [.slice sxs.a xs.length sxs.c] w (fun v _ => v = .int .i64 (orOf xs)) := by
 refine ret_start (n := 18) Tryz.func235 rfl rfl rfl (fun a hS => ?_)
 have Hxs : ∀ W, Below w.heap.size w W → Sl kInt Fxs W sxs xs := fun W hb => hxs.at_ hb
 have hmxs := hxs.len
 refine wpIn_seq ?_
 refine wpIn_region_lit ?_
 refine st_v hS rfl rfl (run_assign hS rfl) fun a hS => wl_nil ?_
 refine wpIn_seq ?_
 refine wpIn_region_lit ?_
 refine st_v hS rfl rfl (run_assign hS rfl) fun a hS => wl_nil ?_
 refine wpIn_seq ?_
 refine wpIn_seq ?_
 refine wpIn_region_lit ?_
 refine st_v hS rfl rfl (run_move hS rfl) fun a hS => st_v hS rfl rfl (run_len_slice Tryz.underlying22 hS rfl) fun a hS => st_v hS rfl rfl (run_move hS rfl) fun a hS => wl_nil ?_
 refine wpIn_block ?_
 refine st_loop2 (α := Nat) (fun x => [(8, .int .i64 (((x : Nat) : Int)))]) [(0, _), (3, _), (6, _), (7, _)] (fun l _ => l) (fun x => x ≤ xs.length ∧ orOf (xs.drop x) = orOf xs) (fun x => xs.length - x) (0) hS (Sub.cons rfl (Sub.cons rfl (Sub.cons rfl (Sub.cons rfl (Sub.cons rfl Sub.nil))))) rfl (⟨Nat.zero_le _, rfl⟩) (fun x W a hφ hS => ?_)
 dsimp only [setB, List.cons_append, List.nil_append, List.take] at hS
 obtain ⟨hx, hg⟩ := hφ
 refine wpIn_seq ?_
 refine wpIn_region_lit ?_
 refine st_v hS rfl rfl (run_bin hS rfl rfl rfl) fun a hS => wl_nil ?_
 refine wpIn_seq ?_
 refine st_cond hS rfl (fun hc1 => ?_) (fun hc1 => ?_)
 ·
  try simp only [ty] at hc1
  refine wpIn_skip ?_
  refine wpIn_seq ?_
  refine wpIn_block ?_
  refine wpIn_seq ?_
  refine wpIn_region_lit ?_
  obtain ⟨ad0, hA0, hL0⟩ := sl_int Hxs (Below.refl _ _) (i := ((x : Nat) : Int)) (j := x) (by omega) (by omega)
  refine st_v hS rfl rfl (run_indexAddr Tryz.underlying22 Tryz.sizeOf3 hS rfl rfl hA0 (by omega) (by omega)) fun a hS => st_v hS rfl rfl (run_load_cell Tryz.isAgg3 hS rfl (hL0 _ hS.below)) fun a hS => st_v hS rfl rfl (run_assign hS rfl) fun a hS => wl_nil ?_
  refine wpIn_seq ?_
  refine wpIn_region_lit ?_
  refine st_v hS rfl rfl (run_move hS rfl) fun a hS => st_v hS rfl rfl (run_move hS rfl) fun a hS => st_v hS rfl rfl (run_bin hS rfl rfl rfl) fun a hS => wl_nil ?_
  refine st_cond hS rfl (fun hc2 => ?_) (fun hc2 => ?_)
  ·
   try simp only [ty] at hc2
   refine wpIn_seq ?_
   refine wpIn_region_lit ?_
   refine st_v hS rfl rfl (run_move hS rfl) fun a hS => st_v hS rfl rfl (run_assign hS rfl) fun a hS => wl_nil ?_
   refine wpIn_ret ?_
   repeat (first | refine q_ret ?_ | refine q_block_ret ?_)
   refine hS.done (res1 (fn := Tryz.f235) (r1 := .tmp 2) rfl (rv_tmp hS rfl)) ?_
   rw [← hg, List.drop_eq_getElem_cons (by omega : x < xs.length)]; have e : xs[x]'(by omega) = ix xs x := by simp [ix, List.getD_eq_getElem?_getD, show x < xs.length by omega]
   rw [e]; simp [orOf, hc2]
  ·
   try simp only [ty] at hc2
   refine wpIn_skip ?_
   refine wpIn_region_lit ?_
   refine st_v hS rfl rfl (run_add (t := ((x + 1 : Nat) : Int)) hS rfl rfl (by omega) (by omega) (by omega)) fun a hS => st_v hS rfl rfl (run_move hS rfl) fun a hS => wl_nil ?_
   refine ⟨x + 1, ⟨⟨by omega, ?_⟩, by omega⟩, (hS.sub (Sub.cons rfl (Sub.cons rfl (Sub.cons rfl (Sub.cons rfl (Sub.cons rfl Sub.nil))))))⟩
   rw [← hg, List.drop_eq_getElem_cons (by omega : x < xs.length)]; have e : xs[x]'(by omega) = ix xs x := by simp [ix, List.getD_eq_getElem?_getD, show x < xs.length by omega]
   rw [e]; simp [orOf, hc2]
 ·
  try simp only [ty] at hc1
  refine wpIn_exit ?_
  refine wpIn_seq ?_
  refine wpIn_region_lit ?_
  refine st_v hS rfl rfl (run_move hS rfl) fun a hS => st_v hS rfl rfl (run_assign hS rfl) fun a hS => wl_nil ?_
  refine wpIn_ret ?_
  repeat (first | refine q_ret ?_ | refine q_block_ret ?_)
  refine hS.done (res1 (fn := Tryz.f235) (r1 := .tmp 2) rfl (rv_tmp hS rfl)) ?_
  rw [← hg, List.drop_of_length_le (by omega)]; rfl


set_option maxHeartbeats 2000000 in
set_option maxRecDepth 100000 in
theorem spans_compare  (p : Span) (q : Span) {w : World}  (hp1 : 1 ≤ p.hi ∧ p.hi ≤ 100000000) (hp2 : -400000000000000 ≤ p.lo ∧ p.lo ≤ 400000000000000) (hq1 : 1 ≤ q.hi ∧ q.hi ≤ 100000000) (hq2 : -400000000000000 ≤ q.lo ∧ q.lo ≤ 400000000000000) : Ret Tryz.prog 190 [.agg (spanC p).toArray, .agg (spanC q).toArray] w (fun v _ => v = .int .i64 (cmpV p q)) := by
 refine ret_start (n := 43) Tryz.func190 rfl rfl rfl (fun a hS => ?_)
 have a1 := fl_rest (n := p.lo) (d := p.hi) (by omega); have a2 := fl_rest (n := q.lo) (d := q.hi) (by omega)
 have a3 := fl_abs (n := p.lo) (d := p.hi) (B := 400000000000000) (by omega) (by omega) (by omega); have a4 := fl_abs (n := q.lo) (d := q.hi) (B := 400000000000000) (by omega) (by omega) (by omega)
 have a5 := mul_rest (a := p.lo - fl p.lo p.hi * p.hi) (b := q.hi) (A := 100000000) (B := 100000000) (by omega) (by omega)
 have a6 := mul_rest (a := q.lo - fl q.lo q.hi * q.hi) (b := p.hi) (A := 100000000) (B := 100000000) (by omega) (by omega)
 refine wpIn_seq ?_
 refine wpIn_region_lit ?_
 refine st_box_agg hS rfl rfl rfl fun W a b0 hS => st_box_agg hS rfl rfl rfl fun W a b1 hS => st_v hS rfl rfl (run_assign hS rfl) fun a hS => wl_nil ?_
 refine wpIn_seq ?_
 refine st_draw (by kernel_rfl) (by kernel_rfl) hS ?_
 refine qt_v hS rfl rfl (fun W hB hS => run_fieldAddr fa160_0 hS rfl) fun a hS => qt_v hS rfl rfl (fun W hB hS => run_load_one (i := 1) Tryz.isAgg3 hS rfl rfl rfl) fun a hS => qt_v hS rfl rfl (fun W hB hS => run_fieldAddr fa160_1 hS rfl) fun a hS => qt_v hS rfl rfl (fun W hB hS => run_load_one (i := 1) Tryz.isAgg3 hS rfl rfl rfl) fun a hS => qt_call hS rfl rfl Tryz.call118 rfl (fun W hB hS => spans_floor (by omega) (by omega) (by omega)) fun a hS => qt_v hS rfl rfl (fun W hB hS => run_fieldAddr fa160_0 hS rfl) fun a hS => qt_v hS rfl rfl (fun W hB hS => run_load_one (i := 0) Tryz.isAgg3 hS rfl rfl rfl) fun a hS => qt_v hS rfl rfl (fun W hB hS => run_fieldAddr fa160_1 hS rfl) fun a hS => qt_v hS rfl rfl (fun W hB hS => run_load_one (i := 0) Tryz.isAgg3 hS rfl rfl rfl) fun a hS => qt_call hS rfl rfl Tryz.call118 rfl (fun W hB hS => spans_floor (by omega) (by omega) (by omega)) fun a hS => qt_v hS rfl rfl (fun W hB hS => run_assign hS rfl) fun a hS => qt_v hS rfl rfl (fun W hB hS => run_assign hS rfl) fun a hS => qt_nil hS fun W hS => ?_
 refine wpIn_seq ?_
 refine wpIn_region_lit ?_
 refine st_v hS rfl rfl (run_move hS rfl) fun a hS => st_v hS rfl rfl (run_move hS rfl) fun a hS => st_v hS rfl rfl (run_sub (t := (fl p.lo p.hi) - (fl q.lo q.hi)) hS rfl rfl (rfl) (by omega) (by omega)) fun a hS => st_v hS rfl rfl (run_fieldAddr fa160_0 hS rfl) fun a hS => st_v hS rfl rfl (run_load_one (i := 1) Tryz.isAgg3 hS rfl rfl rfl) fun a hS => st_v hS rfl rfl (run_move hS rfl) fun a hS => st_v hS rfl rfl (run_fieldAddr fa160_1 hS rfl) fun a hS => st_v hS rfl rfl (run_load_one (i := 1) Tryz.isAgg3 hS rfl rfl rfl) fun a hS => st_v hS rfl rfl (run_mul (t := (fl p.lo p.hi) * p.hi) hS rfl rfl (rfl) (by omega)) fun a hS => st_v hS rfl rfl (run_sub (t := p.lo - ((fl p.lo p.hi) * p.hi)) hS rfl rfl (rfl) (by omega) (by omega)) fun a hS => st_v hS rfl rfl (run_fieldAddr fa160_1 hS rfl) fun a hS => st_v hS rfl rfl (run_load_one (i := 0) Tryz.isAgg3 hS rfl rfl rfl) fun a hS => st_v hS rfl rfl (run_mul (t := (p.lo - ((fl p.lo p.hi) * p.hi)) * q.hi) hS rfl rfl (rfl) (by omega)) fun a hS => st_v hS rfl rfl (run_fieldAddr fa160_0 hS rfl) fun a hS => st_v hS rfl rfl (run_load_one (i := 0) Tryz.isAgg3 hS rfl rfl rfl) fun a hS => st_v hS rfl rfl (run_move hS rfl) fun a hS => st_v hS rfl rfl (run_fieldAddr fa160_1 hS rfl) fun a hS => st_v hS rfl rfl (run_load_one (i := 0) Tryz.isAgg3 hS rfl rfl rfl) fun a hS => st_v hS rfl rfl (run_mul (t := (fl q.lo q.hi) * q.hi) hS rfl rfl (rfl) (by omega)) fun a hS => st_v hS rfl rfl (run_sub (t := q.lo - ((fl q.lo q.hi) * q.hi)) hS rfl rfl (rfl) (by omega) (by omega)) fun a hS => st_v hS rfl rfl (run_fieldAddr fa160_1 hS rfl) fun a hS => st_v hS rfl rfl (run_load_one (i := 1) Tryz.isAgg3 hS rfl rfl rfl) fun a hS => st_v hS rfl rfl (run_mul (t := (q.lo - ((fl q.lo q.hi) * q.hi)) * p.hi) hS rfl rfl (rfl) (by omega)) fun a hS => st_v hS rfl rfl (run_sub (t := ((p.lo - ((fl p.lo p.hi) * p.hi)) * q.hi) - ((q.lo - ((fl q.lo q.hi) * q.hi)) * p.hi)) hS rfl rfl (rfl) (by omega) (by omega)) fun a hS => st_buildSlice (pv := [(0, .int .i64 _), (1, .int .i64 _)]) (fun W => bs22_2_0_1 _ _ W) hS rfl rfl rfl fun W a b2 hS => st_call (cmp_Or (⟨some ⟨b2, 0, none⟩, 2⟩ : SV) [(fl p.lo p.hi) - (fl q.lo q.hi), ((p.lo - ((fl p.lo p.hi) * p.hi)) * q.hi) - ((q.lo - ((fl q.lo q.hi) * q.hi)) * p.hi)] (own_sl_of (dk := kInt) (enc := eInt) (xs := [(fl p.lo p.hi) - (fl q.lo q.hi), ((p.lo - ((fl p.lo p.hi) * p.hi)) * q.hi) - ((q.lo - ((fl q.lo q.hi) * q.hi)) * p.hi)]) (fun _ _ _ => rfl) hS (i := 0) rfl (Nat.le_of_ble_eq_true rfl))) Tryz.call235 hS rfl rfl rfl fun v W a hR hB hlt hS => ?_
 subst hR
 refine st_v hS rfl rfl (run_assign hS rfl) fun a hS => wl_nil ?_
 have hS := hS.sub (κ' := [(0, _), (1, _), (2, _), (3, _), (4, _), (5, _), (6, _)]) (Sub.cons rfl (Sub.cons rfl (Sub.cons rfl (Sub.cons rfl (Sub.cons rfl (Sub.cons rfl (Sub.cons rfl Sub.nil)))))))
 refine wpIn_ret ?_
 repeat (first | refine q_ret ?_ | refine q_block_ret ?_)
 refine hS.done (res1 (fn := Tryz.f190) (r1 := .tmp 4) rfl (rv_tmp hS rfl)) ?_
 rfl


set_option maxHeartbeats 2000000 in
set_option maxRecDepth 100000 in
theorem spans_up  (p : Span) {w : World}  (hp1 : 1 ≤ p.hi ∧ p.hi ≤ 100000000) (hp2 : -400000000000000 ≤ p.lo ∧ p.lo ≤ 400000000000000) : Ret Tryz.prog 119 [.agg (spanC p).toArray] w (fun v _ => v = .int .i64 (ce p.lo p.hi)) := by
 refine ret_start (n := 8) Tryz.func119 rfl rfl rfl (fun a hS => ?_)
 refine wpIn_seq ?_
 refine wpIn_region_lit ?_
 refine st_box_agg hS rfl rfl rfl fun W a b0 hS => st_v hS rfl rfl (run_assign hS rfl) fun a hS => wl_nil ?_
 refine wpIn_seq ?_
 refine wpIn_region_lit ?_
 refine st_v hS rfl rfl (run_fieldAddr fa160_0 hS rfl) fun a hS => st_v hS rfl rfl (run_load_one (i := 0) Tryz.isAgg3 hS rfl rfl rfl) fun a hS => st_v hS rfl rfl (run_fieldAddr fa160_1 hS rfl) fun a hS => st_v hS rfl rfl (run_load_one (i := 0) Tryz.isAgg3 hS rfl rfl rfl) fun a hS => st_call (spans_ceil (by omega) (by omega) (by omega)) Tryz.call191 hS rfl rfl rfl fun v W a hR hB hlt hS => ?_
 subst hR
 refine st_v hS rfl rfl (run_assign hS rfl) fun a hS => wl_nil ?_
 refine wpIn_ret ?_
 repeat (first | refine q_ret ?_ | refine q_block_ret ?_)
 refine hS.done (res1 (fn := Tryz.f119) (r1 := .tmp 2) rfl (rv_tmp hS rfl)) ?_
 rfl


set_option maxHeartbeats 2000000 in
set_option maxRecDepth 100000 in
theorem spans_made  {lo : Int} {hi : Int} {w : World}   : Ret Tryz.prog 213 [.int .i64 lo, .int .i64 hi] w (fun v _ => v = .tuple #[.agg (spanC (if (⟨lo, hi⟩ : Span).ok then ⟨lo, hi⟩ else ⟨0, 0⟩)).toArray, .int .i64 (if (⟨lo, hi⟩ : Span).ok then 0 else 2)]) := by
 refine ret_start (n := 15) Tryz.func213 rfl rfl rfl (fun a hS => ?_)
 refine wpIn_seq ?_
 refine wpIn_region_lit ?_
 refine st_alloc_agg Tryz.zeroValue31 hS rfl rfl fun W a b0 hS => st_v hS rfl rfl (run_assign hS rfl) fun a hS => wl_nil ?_
 refine wpIn_seq ?_
 refine wpIn_region_lit ?_
 refine st_v hS rfl rfl (run_move hS rfl) fun a hS => st_v hS rfl rfl (run_move hS rfl) fun a hS => st_v hS rfl rfl (run_build (pv := [(0, .int .i64 _), (1, .int .i64 _)]) (fun W => bd31_0_1 _ _ W) hS rfl) fun a hS => st_alloc_agg Tryz.zeroValue31 hS rfl rfl fun W a b1 hS => st_store (i := 0) Tryz.sizeOf31 hS rfl rfl rfl rfl rfl rfl rfl rfl rfl fun W a hS => wl_nil ?_
 refine wpIn_seq ?_
 refine wpIn_seq ?_
 refine wpIn_region_lit ?_
 refine st_v hS rfl rfl (run_load_all (i := 0) Tryz.isAgg31 Tryz.sizeOf31 hS rfl rfl rfl) fun a hS => st_call (spans_valid (⟨lo, hi⟩ : Span)) Tryz.call231 hS rfl rfl rfl fun v W a hR hB hlt hS => ?_
 subst hR
 refine st_v hS rfl rfl (run_not hS rfl) fun a hS => wl_nil ?_
 refine st_cond hS rfl (fun hc1 => ?_) (fun hc1 => ?_)
 ·
  try simp only [ty] at hc1
  refine wpIn_seq ?_
  refine wpIn_region_lit ?_
  refine st_v hS rfl rfl (run_build (pv := []) (fun W => bd31_ W) hS rfl) fun a hS => st_store (i := 1) Tryz.sizeOf31 hS rfl rfl rfl rfl rfl rfl rfl rfl rfl fun W a hS => st_v hS rfl rfl (run_assign hS rfl) fun a hS => wl_nil ?_
  refine wpIn_ret ?_
  repeat (first | refine q_ret ?_ | refine q_block_ret ?_)
  refine hS.done (res2 (fn := Tryz.f213) (r1 := .cell 4 31) (r2 := .tmp 5) rfl (rv_agg (i := 1) Tryz.isAgg31 Tryz.sizeOf31 hS rfl rfl rfl) (rv_tmp hS rfl)) ?_
  simp only [hc1, if_true, Bool.false_eq_true, if_false]; rfl
 ·
  try simp only [ty] at hc1
  refine wpIn_skip ?_
  refine wpIn_seq ?_
  refine wpIn_region_lit ?_
  refine st_v hS rfl rfl (run_load_all (i := 0) Tryz.isAgg31 Tryz.sizeOf31 hS rfl rfl rfl) fun a hS => st_store (i := 1) Tryz.sizeOf31 hS rfl rfl rfl rfl rfl rfl rfl rfl rfl fun W a hS => st_v hS rfl rfl (run_assign hS rfl) fun a hS => wl_nil ?_
  refine wpIn_ret ?_
  repeat (first | refine q_ret ?_ | refine q_block_ret ?_)
  refine hS.done (res2 (fn := Tryz.f213) (r1 := .cell 4 31) (r2 := .tmp 5) rfl (rv_agg (i := 1) Tryz.isAgg31 Tryz.sizeOf31 hS rfl rfl rfl) (rv_tmp hS rfl)) ?_
  simp only [hc1, if_true, Bool.false_eq_true, if_false]; rfl


set_option maxHeartbeats 2000000 in
set_option maxRecDepth 100000 in
theorem ref01_made  (p : Span) {w : World}   : Ret Tryz.prog 237 [.agg (spanC p).toArray] w (fun v _ => v = .tuple #[.agg (spanC (if p.ok then p else ⟨0, 0⟩)).toArray, .int .i64 (if p.ok then 0 else 2)]) := by
 refine ret_start (n := 9) Tryz.func237 rfl rfl rfl (fun a hS => ?_)
 refine wpIn_seq ?_
 refine wpIn_region_lit ?_
 refine st_box_agg hS rfl rfl rfl fun W a b0 hS => st_alloc_agg Tryz.zeroValue31 hS rfl rfl fun W a b1 hS => st_v hS rfl rfl (run_assign hS rfl) fun a hS => wl_nil ?_
 refine wpIn_seq ?_
 refine wpIn_seq ?_
 refine wpIn_region_lit ?_
 refine st_v hS rfl rfl (run_load_all (i := 1) Tryz.isAgg31 Tryz.sizeOf31 hS rfl rfl rfl) fun a hS => st_call (ref01_Valid p) Tryz.call184 hS rfl rfl rfl fun v W a hR hB hlt hS => ?_
 subst hR
 refine st_v hS rfl rfl (run_not hS rfl) fun a hS => wl_nil ?_
 refine st_cond hS rfl (fun hc1 => ?_) (fun hc1 => ?_)
 ·
  try simp only [ty] at hc1
  refine wpIn_seq ?_
  refine wpIn_region_lit ?_
  refine st_v hS rfl rfl (run_build (pv := []) (fun W => bd31_ W) hS rfl) fun a hS => st_store (i := 0) Tryz.sizeOf31 hS rfl rfl rfl rfl rfl rfl rfl rfl rfl fun W a hS => st_v hS rfl rfl (run_assign hS rfl) fun a hS => wl_nil ?_
  refine wpIn_ret ?_
  repeat (first | refine q_ret ?_ | refine q_block_ret ?_)
  refine hS.done (res2 (fn := Tryz.f237) (r1 := .cell 2 31) (r2 := .tmp 3) rfl (rv_agg (i := 0) Tryz.isAgg31 Tryz.sizeOf31 hS rfl rfl rfl) (rv_tmp hS rfl)) ?_
  simp only [hc1, if_true, Bool.false_eq_true, if_false]; rfl
 ·
  try simp only [ty] at hc1
  refine wpIn_skip ?_
  refine wpIn_seq ?_
  refine wpIn_region_lit ?_
  refine st_v hS rfl rfl (run_load_all (i := 1) Tryz.isAgg31 Tryz.sizeOf31 hS rfl rfl rfl) fun a hS => st_store (i := 0) Tryz.sizeOf31 hS rfl rfl rfl rfl rfl rfl rfl rfl rfl fun W a hS => st_v hS rfl rfl (run_assign hS rfl) fun a hS => wl_nil ?_
  refine wpIn_ret ?_
  repeat (first | refine q_ret ?_ | refine q_block_ret ?_)
  refine hS.done (res2 (fn := Tryz.f237) (r1 := .cell 2 31) (r2 := .tmp 3) rfl (rv_agg (i := 0) Tryz.isAgg31 Tryz.sizeOf31 hS rfl rfl rfl) (rv_tmp hS rfl)) ?_
  simp only [hc1, if_true, Bool.false_eq_true, if_false]; rfl


set_option maxHeartbeats 2000000 in
set_option maxRecDepth 100000 in
theorem spans_stops  (sl : SV) (l : List Int) (p : Span) {w : World} {Fl : Nat → Prop} (hl : Sl kInt Fl w sl l) (hl12 : l.length ≤ 12) : Ret Tryz.prog 233 [.slice sl.a l.length sl.c, .agg (spanC p).toArray] w (fun v W' => ∃ s : SV, v = .slice s.a (stops l p.lo p.hi).length s.c ∧ Sl kInt (fun k => w.heap.size ≤ k) W' s (stops l p.lo p.hi)) := by
 refine ret_start (n := 43) Tryz.func233 rfl rfl rfl (fun a hS => ?_)
 have Hl : ∀ W, Below w.heap.size w W → Sl kInt Fl W sl l := fun W hb => hl.at_ hb
 have hml := hl.len
 refine wpIn_seq ?_
 refine wpIn_region_lit ?_
 refine st_box_agg hS rfl rfl rfl fun W a b0 hS => st_v hS rfl rfl (run_assign hS rfl) fun a hS => wl_nil ?_
 refine wpIn_seq ?_
 refine wpIn_region_lit ?_
 refine st_v hS rfl rfl (run_fieldAddr fa31_0 hS rfl) fun a hS => st_v hS rfl rfl (run_load_one (i := 0) Tryz.isAgg3 hS rfl rfl rfl) fun a hS => st_buildSlice (pv := [(0, .int .i64 _)]) (fun W => bs22_1_0 _ W) hS rfl rfl rfl fun W a b1 hS => ?_
 have hO1 : OwnL eInt 1 _ ([p.lo]) _ := OwnR.made b1 1 1 _ rfl (by decide)
 have hS := hS.toRow (k := 1) (c := 1)
 refine st_v hS rfl rfl (run_assign hS rfl) fun a hS => wl_nil ?_
 refine wpIn_seq ?_
 refine wpIn_seq ?_
 refine wpIn_region_lit ?_
 refine st_v hS rfl rfl (run_move hS rfl) fun a hS => st_v hS rfl rfl (run_len_slice Tryz.underlying22 hS rfl) fun a hS => st_v hS rfl rfl (run_move hS rfl) fun a hS => wl_nil ?_
 refine wpIn_block ?_
 refine st_loop2 (α := Nat × Value × List Value) (fun z => [(5, z.2.1), (13, .int .i64 ((z.1 : Nat) : Int))]) [(0, _), (1, _), (3, _), (4, _), (11, _), (12, _)] (fun l z => l.take 1 ++ rowB z.2.1 z.2.2 3) (fun z => z.1 ≤ l.length ∧ OwnL eInt 1 z.2.1 (stopsI l p.lo p.hi z.1) z.2.2) (fun z => l.length - z.1) (⟨0, _, _⟩) hS (Sub.cons rfl (Sub.cons rfl (Sub.cons rfl (Sub.cons rfl (Sub.cons rfl (Sub.cons rfl (Sub.cons rfl (Sub.cons rfl Sub.nil)))))))) rfl (⟨Nat.zero_le _, by simpa [stopsI] using hO1⟩) (fun z W a hφ hS => ?_)
 obtain ⟨i, v, cs⟩ := z
 dsimp only [setB, List.cons_append, List.nil_append, List.take] at hS hφ
 obtain ⟨hi, hO⟩ := hφ
 have hsl := stopsI_len l p.lo p.hi i
 
 refine wpIn_seq ?_
 refine wpIn_region_lit ?_
 refine st_v hS rfl rfl (run_bin hS rfl rfl rfl) fun a hS => wl_nil ?_
 refine wpIn_seq ?_
 refine st_cond hS rfl (fun hc1 => ?_) (fun hc1 => ?_)
 ·
  try simp only [ty] at hc1
  refine wpIn_skip ?_
  refine wpIn_seq ?_
  refine wpIn_block ?_
  refine wpIn_seq ?_
  refine wpIn_region_lit ?_
  obtain ⟨ad0, hA0, hL0⟩ := sl_int Hl (Below.refl _ _) (i := ((i : Nat) : Int)) (j := i) (by omega) (by omega)
  refine st_v hS rfl rfl (run_indexAddr Tryz.underlying22 Tryz.sizeOf3 hS rfl rfl hA0 (by omega) (by omega)) fun a hS => st_v hS rfl rfl (run_load_cell Tryz.isAgg3 hS rfl (hL0 _ hS.below)) fun a hS => st_v hS rfl rfl (run_assign hS rfl) fun a hS => wl_nil ?_
  refine wpIn_seq ?_
  refine wpIn_region_lit ?_
  refine st_v hS rfl rfl (run_move hS rfl) fun a hS => st_v hS rfl rfl (run_fieldAddr fa31_0 hS rfl) fun a hS => st_v hS rfl rfl (run_load_one (i := 0) Tryz.isAgg3 hS rfl rfl rfl) fun a hS => st_v hS rfl rfl (run_bin hS rfl rfl rfl) fun a hS => st_v hS rfl rfl (run_move hS rfl) fun a hS => ?_
  refine st_split (d := 21) hS rfl (fun hc2 hS => ?_) (fun hc2 hS => ?_)
  ·
   try simp only [ty] at hc2
   refine st_v hS (hS.wanted rfl rfl rfl) rfl (run_move hS rfl) fun a hS => st_v hS (hS.wanted rfl rfl rfl) rfl (run_fieldAddr fa31_1 hS rfl) fun a hS => st_v hS (hS.wanted rfl rfl rfl) rfl (run_load_one (i := 0) Tryz.isAgg3 hS rfl rfl rfl) fun a hS => st_v hS (hS.wanted rfl rfl rfl) rfl (run_bin hS rfl rfl rfl) fun a hS => st_v hS rfl rfl (run_pick_t hS rfl rfl) fun a hS => wl_nil ?_
   refine st_cond hS rfl (fun hc3 => ?_) (fun hc3 => ?_)
   ·
    try simp only [ty] at hc3
    refine wpIn_region_lit ?_
    refine st_v hS rfl rfl (run_move hS rfl) fun a hS => st_v hS rfl rfl (run_move hS rfl) fun a hS => st_buildSlice (pv := [(0, .int .i64 _)]) (fun W => bs22_1_0 _ W) hS rfl rfl rfl fun W a b2 hS => st_append (l := [_, _]) (cs := cs) Tryz.underlying22 (AI.of ai3) (by decide) hS hO rfl rfl rfl rfl (src_own (sz := 1) Tryz.underlying22 hS (i := 0) rfl rfl rfl) (by omega) fun W a v1 cs1 hO1 hS => ?_
    have hO1' : OwnL eInt 1 v1 ((stopsI l p.lo p.hi i) ++ [ix l i]) cs1 := OwnL.app hO1 rfl rfl rfl rfl
    refine st_v hS rfl rfl (run_assign hS rfl) fun a hS => wl_nil ?_
    refine wpIn_region_lit ?_
    refine st_v hS rfl rfl (run_add (t := ((i + 1 : Nat) : Int)) hS rfl rfl (by omega) (by omega) (by omega)) fun a hS => st_v hS rfl rfl (run_move hS rfl) fun a hS => wl_nil ?_
    refine ⟨⟨i + 1, _, _⟩, ⟨⟨by omega, ?_⟩, by omega⟩, (hS.sub (Sub.cons rfl (Sub.cons rfl (Sub.cons rfl (Sub.cons rfl (Sub.cons rfl (Sub.cons rfl (Sub.cons rfl (Sub.cons rfl Sub.nil))))))))).drop (List.Sublist.cons _ (List.Sublist.refl _))⟩
    rw [stopsI_on (by omega) (by omega) (by omega)]; assumption
   ·
    try simp only [ty] at hc3
    refine wpIn_skip ?_
    refine wpIn_region_lit ?_
    refine st_v hS rfl rfl (run_add (t := ((i + 1 : Nat) : Int)) hS rfl rfl (by omega) (by omega) (by omega)) fun a hS => st_v hS rfl rfl (run_move hS rfl) fun a hS => wl_nil ?_
    refine ⟨⟨i + 1, _, _⟩, ⟨⟨by omega, ?_⟩, by omega⟩, (hS.sub (Sub.cons rfl (Sub.cons rfl (Sub.cons rfl (Sub.cons rfl (Sub.cons rfl (Sub.cons rfl (Sub.cons rfl (Sub.cons rfl Sub.nil)))))))))⟩
    rw [stopsI_off (by omega) (by omega)]; assumption
  ·
   try simp only [ty] at hc2
   refine st_skip hS (hS.unwanted rfl rfl rfl rfl) rfl fun a hS => st_skip hS (hS.unwanted rfl rfl rfl rfl) rfl fun a hS => st_skip hS (hS.unwanted rfl rfl rfl rfl) rfl fun a hS => st_skip hS (hS.unwanted rfl rfl rfl rfl) rfl fun a hS => st_v hS rfl rfl (run_pick_f hS rfl rfl) fun a hS => wl_nil ?_
   refine st_cond_f hS rfl ?_
   refine wpIn_skip ?_
   refine wpIn_region_lit ?_
   refine st_v hS rfl rfl (run_add (t := ((i + 1 : Nat) : Int)) hS rfl rfl (by omega) (by omega) (by omega)) fun a hS => st_v hS rfl rfl (run_move hS rfl) fun a hS => wl_nil ?_
   refine ⟨⟨i + 1, _, _⟩, ⟨⟨by omega, ?_⟩, by omega⟩, (hS.sub (Sub.cons rfl (Sub.cons rfl (Sub.cons rfl (Sub.cons rfl (Sub.cons rfl (Sub.cons rfl (Sub.cons rfl (Sub.cons rfl Sub.nil)))))))))⟩
   rw [stopsI_off (by omega) (by omega)]; assumption
 ·
  try simp only [ty] at hc1
  refine wpIn_exit ?_
  refine wpIn_seq ?_
  refine wpIn_seq ?_
  refine wpIn_region_lit ?_
  refine st_v hS rfl rfl (run_fieldAddr fa31_1 hS rfl) fun a hS => st_v hS rfl rfl (run_load_one (i := 0) Tryz.isAgg3 hS rfl rfl rfl) fun a hS => st_v hS rfl rfl (run_fieldAddr fa31_0 hS rfl) fun a hS => st_v hS rfl rfl (run_load_one (i := 0) Tryz.isAgg3 hS rfl rfl rfl) fun a hS => st_v hS rfl rfl (run_bin hS rfl rfl rfl) fun a hS => wl_nil ?_
  refine st_cond hS rfl (fun hc4 => ?_) (fun hc4 => ?_)
  ·
   try simp only [ty] at hc4
   refine wpIn_region_lit ?_
   refine st_v hS rfl rfl (run_move hS rfl) fun a hS => st_v hS rfl rfl (run_fieldAddr fa31_1 hS rfl) fun a hS => st_v hS rfl rfl (run_load_one (i := 0) Tryz.isAgg3 hS rfl rfl rfl) fun a hS => st_buildSlice (pv := [(0, .int .i64 _)]) (fun W => bs22_1_0 _ W) hS rfl rfl rfl fun W a b3 hS => st_append (l := [_, _]) (cs := cs) Tryz.underlying22 (AI.of ai3) (by decide) hS hO rfl rfl rfl rfl (src_own (sz := 1) Tryz.underlying22 hS (i := 0) rfl rfl rfl) (by omega) fun W a v2 cs2 hO2 hS => ?_
   have hO2' : OwnL eInt 1 v2 ((stopsI l p.lo p.hi i) ++ [p.hi]) cs2 := OwnL.app hO2 rfl rfl rfl rfl
   refine st_v hS rfl rfl (run_assign hS rfl) fun a hS => wl_nil ?_
   refine wpIn_seq ?_
   refine wpIn_region_lit ?_
   refine st_v hS rfl rfl (run_move hS rfl) fun a hS => st_v hS rfl rfl (run_assign hS rfl) fun a hS => wl_nil ?_
   refine wpIn_ret ?_
   repeat (first | refine q_ret ?_ | refine q_block_ret ?_)
   refine hS.done (res1 (fn := Tryz.f233) (r1 := .tmp 4) rfl (rv_tmp hS rfl)) ?_
   rw [stopsI_end (i := i) (by omega), if_pos (by omega)]; exact OwnL.ints (l := [_, _]) hS (by assumption) (by simp only [List.length_append, List.length_cons, List.length_nil]; omega)
  ·
   try simp only [ty] at hc4
   refine wpIn_skip ?_
   refine wpIn_seq ?_
   refine wpIn_region_lit ?_
   refine st_v hS rfl rfl (run_move hS rfl) fun a hS => st_v hS rfl rfl (run_assign hS rfl) fun a hS => wl_nil ?_
   refine wpIn_ret ?_
   repeat (first | refine q_ret ?_ | refine q_block_ret ?_)
   refine hS.done (res1 (fn := Tryz.f233) (r1 := .tmp 4) rfl (rv_tmp hS rfl)) ?_
   rw [stopsI_end (i := i) (by omega), if_neg (by omega), List.append_nil]; exact OwnL.ints (l := [_]) hS (by assumption) (by omega)

end Go.Proofs.YtdnodlgebpnfoaaGreat
