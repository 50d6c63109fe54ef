/- The specification's checks of spans and tables, walked. -/
import Derived.Test.YtdnodlgebpnfoaaGreatRep
import Derived.Test.YtdnodlgebpnfoaaGreatMix
import Derived.Test.YtdnodlgebpnfoaaGreatTyp
namespace Go.Proofs.YtdnodlgebpnfoaaGreat
open Go Go.RowKit Go.Shelf Sw
set_option linter.unusedVariables false
set_option linter.unusedSimpArgs false

set_option maxHeartbeats 2000000 in
set_option maxRecDepth 100000 in
theorem ref01_From  {n : Int} {lo : Int} {hi : Int} {w : World}   : Ret Tryz.prog 222 [.int .i64 n, .int .i64 lo, .int .i64 hi] w (fun v _ => v = .bool (within n lo hi)) := by
 refine ret_start (n := 15) Tryz.func222 rfl rfl rfl (fun a hS => ?_)
 refine wpIn_seq ?_
 refine wpIn_region_lit ?_
 refine st_v hS rfl rfl (run_assign hS rfl) fun a hS => wl_nil ?_
 refine wpIn_seq ?_
 refine wpIn_region_lit ?_
 refine st_v hS rfl rfl (run_move hS rfl) fun a hS => st_v hS rfl rfl (run_move hS rfl) fun a hS => st_v hS rfl rfl (run_bin hS rfl rfl rfl) fun a hS => st_v hS rfl rfl (run_move hS rfl) fun a hS => ?_
 refine st_split (d := 10) hS rfl (fun hc1 hS => ?_) (fun hc1 hS => ?_)
 ·
  try simp only [ty] at hc1
  refine st_v hS (hS.wanted rfl rfl rfl) rfl (run_move hS rfl) fun a hS => st_v hS (hS.wanted rfl rfl rfl) rfl (run_move hS rfl) fun a hS => st_v hS (hS.wanted rfl rfl rfl) rfl (run_bin hS rfl rfl rfl) fun a hS => st_v hS rfl rfl (run_pick_t hS rfl rfl) fun a hS => st_v hS rfl rfl (run_assign hS rfl) fun a hS => wl_nil ?_
  refine wpIn_ret ?_
  repeat (first | refine q_ret ?_ | refine q_block_ret ?_)
  refine hS.done (res1 (fn := Tryz.f222) (r1 := .tmp 6) rfl (rv_tmp hS rfl)) ?_
  refine vb ?_; simp [within]; try omega
 ·
  try simp only [ty] at hc1
  refine st_skip hS (hS.unwanted rfl rfl rfl rfl) rfl fun a hS => st_skip hS (hS.unwanted rfl rfl rfl rfl) rfl fun a hS => st_skip hS (hS.unwanted rfl rfl rfl rfl) rfl fun a hS => st_v hS rfl rfl (run_pick_f hS rfl rfl) fun a hS => st_v hS rfl rfl (run_assign hS rfl) fun a hS => wl_nil ?_
  refine wpIn_ret ?_
  repeat (first | refine q_ret ?_ | refine q_block_ret ?_)
  refine hS.done (res1 (fn := Tryz.f222) (r1 := .tmp 6) rfl (rv_tmp hS rfl)) ?_
  refine vb ?_; simp [within]; try omega


set_option maxHeartbeats 2000000 in
set_option maxRecDepth 100000 in
theorem ref02_from  {n : Int} {lo : Int} {hi : Int} {w : World}   : Ret Tryz.prog 174 [.int .i64 n, .int .i64 lo, .int .i64 hi] w (fun v _ => v = .bool (within n lo hi)) := by
 refine ret_start (n := 15) Tryz.func174 rfl rfl rfl (fun a hS => ?_)
 refine wpIn_seq ?_
 refine wpIn_region_lit ?_
 refine st_v hS rfl rfl (run_assign hS rfl) fun a hS => wl_nil ?_
 refine wpIn_seq ?_
 refine wpIn_region_lit ?_
 refine st_v hS rfl rfl (run_move hS rfl) fun a hS => st_v hS rfl rfl (run_move hS rfl) fun a hS => st_v hS rfl rfl (run_bin hS rfl rfl rfl) fun a hS => st_v hS rfl rfl (run_move hS rfl) fun a hS => ?_
 refine st_split (d := 10) hS rfl (fun hc1 hS => ?_) (fun hc1 hS => ?_)
 ·
  try simp only [ty] at hc1
  refine st_v hS (hS.wanted rfl rfl rfl) rfl (run_move hS rfl) fun a hS => st_v hS (hS.wanted rfl rfl rfl) rfl (run_move hS rfl) fun a hS => st_v hS (hS.wanted rfl rfl rfl) rfl (run_bin hS rfl rfl rfl) fun a hS => st_v hS rfl rfl (run_pick_t hS rfl rfl) fun a hS => st_v hS rfl rfl (run_assign hS rfl) fun a hS => wl_nil ?_
  refine wpIn_ret ?_
  repeat (first | refine q_ret ?_ | refine q_block_ret ?_)
  refine hS.done (res1 (fn := Tryz.f174) (r1 := .tmp 6) rfl (rv_tmp hS rfl)) ?_
  refine vb ?_; simp [within]; try omega
 ·
  try simp only [ty] at hc1
  refine st_skip hS (hS.unwanted rfl rfl rfl rfl) rfl fun a hS => st_skip hS (hS.unwanted rfl rfl rfl rfl) rfl fun a hS => st_skip hS (hS.unwanted rfl rfl rfl rfl) rfl fun a hS => st_v hS rfl rfl (run_pick_f hS rfl rfl) fun a hS => st_v hS rfl rfl (run_assign hS rfl) fun a hS => wl_nil ?_
  refine wpIn_ret ?_
  repeat (first | refine q_ret ?_ | refine q_block_ret ?_)
  refine hS.done (res1 (fn := Tryz.f174) (r1 := .tmp 6) rfl (rv_tmp hS rfl)) ?_
  refine vb ?_; simp [within]; try omega


set_option maxHeartbeats 2000000 in
set_option maxRecDepth 100000 in
theorem spans_within  {n : Int} {lo : Int} {hi : Int} {w : World}   : Ret Tryz.prog 209 [.int .i64 n, .int .i64 lo, .int .i64 hi] w (fun v _ => v = .bool (within n lo hi)) := by
 refine ret_start (n := 15) Tryz.func209 rfl rfl rfl (fun a hS => ?_)
 refine wpIn_seq ?_
 refine wpIn_region_lit ?_
 refine st_v hS rfl rfl (run_assign hS rfl) fun a hS => wl_nil ?_
 refine wpIn_seq ?_
 refine wpIn_region_lit ?_
 refine st_v hS rfl rfl (run_move hS rfl) fun a hS => st_v hS rfl rfl (run_move hS rfl) fun a hS => st_v hS rfl rfl (run_bin hS rfl rfl rfl) fun a hS => st_v hS rfl rfl (run_move hS rfl) fun a hS => ?_
 refine st_split (d := 10) hS rfl (fun hc1 hS => ?_) (fun hc1 hS => ?_)
 ·
  try simp only [ty] at hc1
  refine st_v hS (hS.wanted rfl rfl rfl) rfl (run_move hS rfl) fun a hS => st_v hS (hS.wanted rfl rfl rfl) rfl (run_move hS rfl) fun a hS => st_v hS (hS.wanted rfl rfl rfl) rfl (run_bin hS rfl rfl rfl) fun a hS => st_v hS rfl rfl (run_pick_t hS rfl rfl) fun a hS => st_v hS rfl rfl (run_assign hS rfl) fun a hS => wl_nil ?_
  refine wpIn_ret ?_
  repeat (first | refine q_ret ?_ | refine q_block_ret ?_)
  refine hS.done (res1 (fn := Tryz.f209) (r1 := .tmp 6) rfl (rv_tmp hS rfl)) ?_
  refine vb ?_; simp [within]; try omega
 ·
  try simp only [ty] at hc1
  refine st_skip hS (hS.unwanted rfl rfl rfl rfl) rfl fun a hS => st_skip hS (hS.unwanted rfl rfl rfl rfl) rfl fun a hS => st_skip hS (hS.unwanted rfl rfl rfl rfl) rfl fun a hS => st_v hS rfl rfl (run_pick_f hS rfl rfl) fun a hS => st_v hS rfl rfl (run_assign hS rfl) fun a hS => wl_nil ?_
  refine wpIn_ret ?_
  repeat (first | refine q_ret ?_ | refine q_block_ret ?_)
  refine hS.done (res1 (fn := Tryz.f209) (r1 := .tmp 6) rfl (rv_tmp hS rfl)) ?_
  refine vb ?_; simp [within]; try omega


set_option maxHeartbeats 2000000 in
set_option maxRecDepth 100000 in
theorem rotor_within  {n : Int} {lo : Int} {hi : Int} {w : World}   : Ret Tryz.prog 81 [.int .i64 n, .int .i64 lo, .int .i64 hi] w (fun v _ => v = .bool (within n lo hi)) := by
 refine ret_start (n := 15) Tryz.func81 rfl rfl rfl (fun a hS => ?_)
 refine wpIn_seq ?_
 refine wpIn_region_lit ?_
 refine st_v hS rfl rfl (run_assign hS rfl) fun a hS => wl_nil ?_
 refine wpIn_seq ?_
 refine wpIn_region_lit ?_
 refine st_v hS rfl rfl (run_move hS rfl) fun a hS => st_v hS rfl rfl (run_move hS rfl) fun a hS => st_v hS rfl rfl (run_bin hS rfl rfl rfl) fun a hS => st_v hS rfl rfl (run_move hS rfl) fun a hS => ?_
 refine st_split (d := 10) hS rfl (fun hc1 hS => ?_) (fun hc1 hS => ?_)
 ·
  try simp only [ty] at hc1
  refine st_v hS (hS.wanted rfl rfl rfl) rfl (run_move hS rfl) fun a hS => st_v hS (hS.wanted rfl rfl rfl) rfl (run_move hS rfl) fun a hS => st_v hS (hS.wanted rfl rfl rfl) rfl (run_bin hS rfl rfl rfl) fun a hS => st_v hS rfl rfl (run_pick_t hS rfl rfl) fun a hS => st_v hS rfl rfl (run_assign hS rfl) fun a hS => wl_nil ?_
  refine wpIn_ret ?_
  repeat (first | refine q_ret ?_ | refine q_block_ret ?_)
  refine hS.done (res1 (fn := Tryz.f81) (r1 := .tmp 6) rfl (rv_tmp hS rfl)) ?_
  refine vb ?_; simp [within]; try omega
 ·
  try simp only [ty] at hc1
  refine st_skip hS (hS.unwanted rfl rfl rfl rfl) rfl fun a hS => st_skip hS (hS.unwanted rfl rfl rfl rfl) rfl fun a hS => st_skip hS (hS.unwanted rfl rfl rfl rfl) rfl fun a hS => st_v hS rfl rfl (run_pick_f hS rfl rfl) fun a hS => st_v hS rfl rfl (run_assign hS rfl) fun a hS => wl_nil ?_
  refine wpIn_ret ?_
  repeat (first | refine q_ret ?_ | refine q_block_ret ?_)
  refine hS.done (res1 (fn := Tryz.f81) (r1 := .tmp 6) rfl (rv_tmp hS rfl)) ?_
  refine vb ?_; simp [within]; try omega


set_option maxHeartbeats 2000000 in
set_option maxRecDepth 100000 in
theorem engine_within  {n : Int} {lo : Int} {hi : Int} {w : World}   : Ret Tryz.prog 152 [.int .i64 n, .int .i64 lo, .int .i64 hi] w (fun v _ => v = .bool (within n lo hi)) := by
 refine ret_start (n := 15) Tryz.func152 rfl rfl rfl (fun a hS => ?_)
 refine wpIn_seq ?_
 refine wpIn_region_lit ?_
 refine st_v hS rfl rfl (run_assign hS rfl) fun a hS => wl_nil ?_
 refine wpIn_seq ?_
 refine wpIn_region_lit ?_
 refine st_v hS rfl rfl (run_move hS rfl) fun a hS => st_v hS rfl rfl (run_move hS rfl) fun a hS => st_v hS rfl rfl (run_bin hS rfl rfl rfl) fun a hS => st_v hS rfl rfl (run_move hS rfl) fun a hS => ?_
 refine st_split (d := 10) hS rfl (fun hc1 hS => ?_) (fun hc1 hS => ?_)
 ·
  try simp only [ty] at hc1
  refine st_v hS (hS.wanted rfl rfl rfl) rfl (run_move hS rfl) fun a hS => st_v hS (hS.wanted rfl rfl rfl) rfl (run_move hS rfl) fun a hS => st_v hS (hS.wanted rfl rfl rfl) rfl (run_bin hS rfl rfl rfl) fun a hS => st_v hS rfl rfl (run_pick_t hS rfl rfl) fun a hS => st_v hS rfl rfl (run_assign hS rfl) fun a hS => wl_nil ?_
  refine wpIn_ret ?_
  repeat (first | refine q_ret ?_ | refine q_block_ret ?_)
  refine hS.done (res1 (fn := Tryz.f152) (r1 := .tmp 6) rfl (rv_tmp hS rfl)) ?_
  refine vb ?_; simp [within]; try omega
 ·
  try simp only [ty] at hc1
  refine st_skip hS (hS.unwanted rfl rfl rfl rfl) rfl fun a hS => st_skip hS (hS.unwanted rfl rfl rfl rfl) rfl fun a hS => st_skip hS (hS.unwanted rfl rfl rfl rfl) rfl fun a hS => st_v hS rfl rfl (run_pick_f hS rfl rfl) fun a hS => st_v hS rfl rfl (run_assign hS rfl) fun a hS => wl_nil ?_
  refine wpIn_ret ?_
  repeat (first | refine q_ret ?_ | refine q_block_ret ?_)
  refine hS.done (res1 (fn := Tryz.f152) (r1 := .tmp 6) rfl (rv_tmp hS rfl)) ?_
  refine vb ?_; simp [within]; try omega


set_option maxHeartbeats 2000000 in
set_option maxRecDepth 100000 in
theorem ref03_within  {n : Int} {lo : Int} {hi : Int} {w : World}   : Ret Tryz.prog 139 [.int .i64 n, .int .i64 lo, .int .i64 hi] w (fun v _ => v = .bool (within n lo hi)) := by
 refine ret_start (n := 15) Tryz.func139 rfl rfl rfl (fun a hS => ?_)
 refine wpIn_seq ?_
 refine wpIn_region_lit ?_
 refine st_v hS rfl rfl (run_assign hS rfl) fun a hS => wl_nil ?_
 refine wpIn_seq ?_
 refine wpIn_region_lit ?_
 refine st_v hS rfl rfl (run_move hS rfl) fun a hS => st_v hS rfl rfl (run_move hS rfl) fun a hS => st_v hS rfl rfl (run_bin hS rfl rfl rfl) fun a hS => st_v hS rfl rfl (run_move hS rfl) fun a hS => ?_
 refine st_split (d := 10) hS rfl (fun hc1 hS => ?_) (fun hc1 hS => ?_)
 ·
  try simp only [ty] at hc1
  refine st_v hS (hS.wanted rfl rfl rfl) rfl (run_move hS rfl) fun a hS => st_v hS (hS.wanted rfl rfl rfl) rfl (run_move hS rfl) fun a hS => st_v hS (hS.wanted rfl rfl rfl) rfl (run_bin hS rfl rfl rfl) fun a hS => st_v hS rfl rfl (run_pick_t hS rfl rfl) fun a hS => st_v hS rfl rfl (run_assign hS rfl) fun a hS => wl_nil ?_
  refine wpIn_ret ?_
  repeat (first | refine q_ret ?_ | refine q_block_ret ?_)
  refine hS.done (res1 (fn := Tryz.f139) (r1 := .tmp 6) rfl (rv_tmp hS rfl)) ?_
  refine vb ?_; simp [within]; try omega
 ·
  try simp only [ty] at hc1
  refine st_skip hS (hS.unwanted rfl rfl rfl rfl) rfl fun a hS => st_skip hS (hS.unwanted rfl rfl rfl rfl) rfl fun a hS => st_skip hS (hS.unwanted rfl rfl rfl rfl) rfl fun a hS => st_v hS rfl rfl (run_pick_f hS rfl rfl) fun a hS => st_v hS rfl rfl (run_assign hS rfl) fun a hS => wl_nil ?_
  refine wpIn_ret ?_
  repeat (first | refine q_ret ?_ | refine q_block_ret ?_)
  refine hS.done (res1 (fn := Tryz.f139) (r1 := .tmp 6) rfl (rv_tmp hS rfl)) ?_
  refine vb ?_; simp [within]; try omega


set_option maxHeartbeats 2000000 in
set_option maxRecDepth 100000 in
theorem ref01_Valid  (a : Span) {w : World}   : Ret Tryz.prog 184 [.agg (spanC a).toArray] w (fun v _ => v = .bool a.ok) := by
 refine ret_start (n := 13) Tryz.func184 rfl rfl rfl (fun a hS => ?_)
 refine wpIn_seq ?_
 refine wpIn_region_lit ?_
 refine st_box_agg hS rfl rfl rfl fun W a b0 hS => st_v hS rfl rfl (run_assign hS rfl) fun a hS => wl_nil ?_
 refine wpIn_seq ?_
 refine wpIn_region_lit ?_
 refine st_v hS rfl rfl (run_fieldAddr fa31_0 hS rfl) fun a hS => st_v hS rfl rfl (run_load_one (i := 0) Tryz.isAgg3 hS rfl rfl rfl) fun a hS => st_call (ref01_From) Tryz.call222 hS rfl rfl rfl fun v W a hR hB hlt hS => ?_
 subst hR
 refine st_v hS rfl rfl (run_move hS rfl) fun a hS => ?_
 refine st_split (d := 6) hS rfl (fun hc1 hS => ?_) (fun hc1 hS => ?_)
 ·
  try simp only [ty] at hc1
  refine st_v hS (hS.wanted rfl rfl rfl) rfl (run_fieldAddr fa31_1 hS rfl) fun a hS => st_v hS (hS.wanted rfl rfl rfl) rfl (run_load_one (i := 0) Tryz.isAgg3 hS rfl rfl rfl) fun a hS => st_v hS (hS.wanted rfl rfl rfl) rfl (run_fieldAddr fa31_0 hS rfl) fun a hS => st_v hS (hS.wanted rfl rfl rfl) rfl (run_load_one (i := 0) Tryz.isAgg3 hS rfl rfl rfl) fun a hS => st_call (ref01_From) Tryz.call222 hS (hS.wanted rfl rfl rfl) rfl rfl fun v W a hR hB hlt hS => ?_
  subst hR
  refine st_v hS rfl rfl (run_pick_t hS rfl rfl) fun a hS => st_v hS rfl rfl (run_assign hS rfl) fun a hS => wl_nil ?_
  refine wpIn_ret ?_
  repeat (first | refine q_ret ?_ | refine q_block_ret ?_)
  refine hS.done (res1 (fn := Tryz.f184) (r1 := .tmp 2) rfl (rv_tmp hS rfl)) ?_
  refine vb ?_; simp [within] at hc1; simp [within, Span.ok_iff]; try omega
 ·
  try simp only [ty] at hc1
  refine st_skip hS (hS.unwanted rfl rfl rfl rfl) rfl fun a hS => st_skip hS (hS.unwanted rfl rfl rfl rfl) rfl fun a hS => st_skip hS (hS.unwanted rfl rfl rfl rfl) rfl fun a hS => st_skip hS (hS.unwanted rfl rfl rfl rfl) rfl fun a hS => st_skip hS (hS.unwanted rfl rfl rfl rfl) rfl fun a hS => st_v hS rfl rfl (run_pick_f hS rfl rfl) fun a hS => st_v hS rfl rfl (run_assign hS rfl) fun a hS => wl_nil ?_
  refine wpIn_ret ?_
  repeat (first | refine q_ret ?_ | refine q_block_ret ?_)
  refine hS.done (res1 (fn := Tryz.f184) (r1 := .tmp 2) rfl (rv_tmp hS rfl)) ?_
  refine vb ?_; simp [within] at hc1; simp [within, Span.ok_iff]; try omega


set_option maxHeartbeats 2000000 in
set_option maxRecDepth 100000 in
theorem ref01_knots  (sl : SV) (l : List Int) {w : World} {Fl : Nat → Prop} (hl : Sl kInt Fl w sl l)  : Ret Tryz.prog 244 [.slice sl.a l.length sl.c] w (fun v _ => v = .bool (axisOk l)) := by
 refine ret_start (n := 38) Tryz.func244 rfl rfl rfl (fun a hS => ?_)
 have Hl : ∀ W, Below w.heap.size w W → Sl kInt Fl W sl l := fun W hb => hl.at_ hb
 have hml := hl.len
 refine wpIn_seq ?_
 refine wpIn_region_lit ?_
 refine st_v hS rfl rfl (run_assign hS rfl) fun a hS => wl_nil ?_
 refine wpIn_seq ?_
 refine wpIn_seq ?_
 refine wpIn_region_lit ?_
 refine st_v hS rfl rfl (run_move hS rfl) fun a hS => st_v hS rfl rfl (run_len_slice Tryz.underlying22 hS rfl) fun a hS => st_call (ref01_From) Tryz.call222 hS rfl rfl rfl fun v W a hR hB hlt hS => ?_
 subst hR
 refine st_v hS rfl rfl (run_not hS rfl) fun a hS => wl_nil ?_
 refine st_cond hS rfl (fun hc1 => ?_) (fun hc1 => ?_)
 ·
  try simp only [ty] at hc1
  refine wpIn_seq ?_
  refine wpIn_region_lit ?_
  refine st_v hS rfl rfl (run_assign hS rfl) fun a hS => wl_nil ?_
  refine wpIn_ret ?_
  repeat (first | refine q_ret ?_ | refine q_block_ret ?_)
  refine hS.done (res1 (fn := Tryz.f244) (r1 := .tmp 2) rfl (rv_tmp hS rfl)) ?_
  rw [axisOk_len (by simpa using hc1)]
 ·
  try simp only [ty] at hc1
  refine wpIn_skip ?_
  refine wpIn_seq ?_
  refine wpIn_seq ?_
  refine wpIn_region_lit ?_
  refine st_v hS rfl rfl (run_assign hS rfl) fun a hS => wl_nil ?_
  refine wpIn_block ?_
  refine st_loop2 (α := Nat) (fun x => [(3, .int .i64 (((x : Nat) : Int)))]) [(0, _)] (fun l _ => l) (fun x => x ≤ l.length ∧ ∀ j, j < x → axisGood l j = true) (fun x => l.length - x) (0) hS (Sub.cons rfl (Sub.cons rfl Sub.nil)) rfl (⟨Nat.zero_le _, fun j hj => absurd hj (Nat.not_lt_zero j)⟩) (fun x W a hφ hS => ?_)
  dsimp only [setB, List.cons_append, List.nil_append, List.take] at hS
  obtain ⟨hx, hg⟩ := hφ
  refine wpIn_seq ?_
  refine wpIn_seq ?_
  refine wpIn_region_lit ?_
  refine st_v hS rfl rfl (run_move hS rfl) fun a hS => st_v hS rfl rfl (run_move hS rfl) fun a hS => st_v hS rfl rfl (run_len_slice Tryz.underlying22 hS rfl) fun a hS => st_v hS rfl rfl (run_bin hS rfl rfl rfl) fun a hS => wl_nil ?_
  refine st_cond hS rfl (fun hc2 => ?_) (fun hc2 => ?_)
  ·
   try simp only [ty] at hc2
   refine wpIn_skip ?_
   refine wpIn_seq ?_
   refine wpIn_block ?_
   refine wpIn_seq ?_
   refine st_draw (by kernel_rfl) (by kernel_rfl) hS ?_
   refine qt_v hS rfl rfl (fun W hB hS => run_move hS rfl) fun a hS => qt_v hS rfl rfl (fun W hB hS => run_move hS rfl) fun a hS => ?_
   obtain ⟨ad0, hA0, hL0⟩ := sl_int Hl (Below.refl _ _) (i := ((x : Nat) : Int)) (j := x) (by omega) (by omega)
   refine qt_v hS rfl rfl (fun W hB hS => run_indexAddr Tryz.underlying22 Tryz.sizeOf3 hS rfl rfl hA0 (by omega) (by omega)) fun a hS => qt_v hS rfl rfl (fun W hB hS => run_load_cell Tryz.isAgg3 hS rfl (hL0 _ hS.below)) fun a hS => qt_call hS rfl rfl Tryz.call222 rfl (fun W hB hS => ref01_From) fun a hS => qt_v hS rfl rfl (fun W hB hS => run_not hS rfl) fun a hS => qt_v hS rfl rfl (fun W hB hS => run_move hS rfl) fun a hS => ?_
   refine st_split (d := 20) hS rfl (fun hc3 hS => ?_) (fun hc3 hS => ?_)
   ·
    try simp only [ty] at hc3
    refine qt_skip hS (hS.unwanted rfl rfl rfl rfl) rfl fun a hS => qt_skip hS (hS.unwanted rfl rfl rfl rfl) rfl fun a hS => qt_skip hS (hS.unwanted rfl rfl rfl rfl) rfl fun a hS => qt_skip hS (hS.unwantedU rfl rfl rfl) rfl fun a hS => qt_skip hS (hS.unwantedU rfl rfl rfl) rfl fun a hS => qt_skip hS (hS.unwantedU rfl rfl rfl) rfl fun a hS => qt_skip hS (hS.unwantedU rfl rfl rfl) rfl fun a hS => qt_skip hS (hS.unwantedU rfl rfl rfl) rfl fun a hS => qt_skip hS (hS.unwantedU rfl rfl rfl) rfl fun a hS => qt_skip hS (hS.unwantedU rfl rfl rfl) rfl fun a hS => qt_skip hS (hS.unwantedU rfl rfl rfl) rfl fun a hS => qt_skip hS (hS.unwantedU rfl rfl rfl) rfl fun a hS => qt_skip hS (hS.unwantedU rfl rfl rfl) rfl fun a hS => qt_skip hS (hS.unwantedU rfl rfl rfl) rfl fun a hS => qt_skip hS (hS.unwantedU rfl rfl rfl) rfl fun a hS => qt_skip hS (hS.unwanted rfl rfl rfl rfl) rfl fun a hS => qt_v hS rfl rfl (fun W hB hS => run_pick_t hS rfl rfl) fun a hS => qt_nil hS fun W hS => ?_
    have hS := hS.sub (κ' := [(0, _), (3, _), (37, _)]) (Sub.cons rfl (Sub.cons rfl (Sub.cons rfl Sub.nil)))
    refine st_cond_t hS rfl ?_
    refine wpIn_seq ?_
    refine wpIn_region_lit ?_
    refine st_v hS rfl rfl (run_assign hS rfl) fun a hS => wl_nil ?_
    refine wpIn_ret ?_
    repeat (first | refine q_ret ?_ | refine q_block_ret ?_)
    refine hS.done (res1 (fn := Tryz.f244) (r1 := .tmp 2) rfl (rv_tmp hS rfl)) ?_
    rw [axisOk_bad (i := x) (by omega) (by simp [axisGood, hc3])]
   ·
    try simp only [ty] at hc3
    
    refine qt_v hS (hS.wanted rfl rfl rfl) rfl (fun W hB hS => run_move hS rfl) fun a hS => qt_v hS (hS.wanted rfl rfl rfl) rfl (fun W hB hS => run_bin hS rfl rfl rfl) fun a hS => qt_v hS (hS.wanted rfl rfl rfl) rfl (fun W hB hS => run_move hS rfl) fun a hS => ?_
    refine st_split (d := 23) hS rfl (fun hc4 hS => ?_) (fun hc4 hS => ?_)
    ·
     try simp only [ty] at hc4
     have hx0 : 0 < x := by omega
     have hb1 : -1000000 ≤ ix l x ∧ ix l x ≤ 1000000 := by simpa [within] using hc3
     have hb2 := hg (x - 1) (by omega)
     simp only [axisGood, within, Bool.and_eq_true, decide_eq_true_eq] at hb2
     refine qt_v hS (hS.wanted rfl rfl rfl) rfl (fun W hB hS => run_move hS rfl) fun a hS => qt_v hS (hS.wanted rfl rfl rfl) rfl (fun W hB hS => run_move hS rfl) fun a hS => ?_
     obtain ⟨ad1, hA1, hL1⟩ := sl_int Hl (Below.refl _ _) (i := ((x : Nat) : Int)) (j := x) (by omega) (by omega)
     refine qt_v hS (hS.wanted rfl rfl rfl) rfl (fun W hB hS => run_indexAddr Tryz.underlying22 Tryz.sizeOf3 hS rfl rfl hA1 (by omega) (by omega)) fun a hS => qt_v hS (hS.wanted rfl rfl rfl) rfl (fun W hB hS => run_load_cell Tryz.isAgg3 hS rfl (hL1 _ hS.below)) fun a hS => qt_v hS (hS.wanted rfl rfl rfl) rfl (fun W hB hS => run_move hS rfl) fun a hS => qt_v hS (hS.wanted rfl rfl rfl) rfl (fun W hB hS => run_move hS rfl) fun a hS => qt_v hS (hS.wanted rfl rfl rfl) rfl (fun W hB hS => run_sub (t := ((x - 1 : Nat) : Int)) hS rfl rfl (by omega) (by omega) (by omega)) fun a hS => ?_
     obtain ⟨ad2, hA2, hL2⟩ := sl_int Hl (Below.refl _ _) (i := ((x - 1 : Nat) : Int)) (j := x - 1) (by omega) (by omega)
     refine qt_v hS (hS.wanted rfl rfl rfl) rfl (fun W hB hS => run_indexAddr Tryz.underlying22 Tryz.sizeOf3 hS rfl rfl hA2 (by omega) (by omega)) fun a hS => qt_v hS (hS.wanted rfl rfl rfl) rfl (fun W hB hS => run_load_cell Tryz.isAgg3 hS rfl (hL2 _ hS.below)) fun a hS => qt_v hS (hS.wanted rfl rfl rfl) rfl (fun W hB hS => run_sub (t := ((ix l (x))) - ((ix l (x - 1)))) hS rfl rfl (rfl) (by omega) (by omega)) fun a hS => qt_call hS (hS.wanted rfl rfl rfl) rfl Tryz.call222 rfl (fun W hB hS => ref01_From) fun a hS => qt_v hS (hS.wanted rfl rfl rfl) rfl (fun W hB hS => run_not hS rfl) fun a hS => qt_v hS (hS.wanted rfl rfl rfl) rfl (fun W hB hS => run_pick_t hS rfl rfl) fun a hS => qt_v hS rfl rfl (fun W hB hS => run_pick_f hS rfl rfl) fun a hS => qt_nil hS fun W hS => ?_
     have hS := hS.sub (κ' := [(0, _), (3, _), (37, _)]) (Sub.cons rfl (Sub.cons rfl (Sub.cons rfl Sub.nil)))
     refine st_cond hS rfl (fun hc5 => ?_) (fun hc5 => ?_)
     ·
      try simp only [ty] at hc5
      refine wpIn_seq ?_
      refine wpIn_region_lit ?_
      refine st_v hS rfl rfl (run_assign hS rfl) fun a hS => wl_nil ?_
      refine wpIn_ret ?_
      repeat (first | refine q_ret ?_ | refine q_block_ret ?_)
      refine hS.done (res1 (fn := Tryz.f244) (r1 := .tmp 2) rfl (rv_tmp hS rfl)) ?_
      rw [axisOk_bad (i := x) (by omega) (by simp [axisGood, hc5]; omega)]
     ·
      try simp only [ty] at hc5
      refine wpIn_skip ?_
      refine wpIn_region_lit ?_
      refine st_v hS rfl rfl (run_move hS rfl) fun a hS => st_v hS rfl rfl (run_add (t := ((x + 1 : Nat) : Int)) hS rfl rfl (by omega) (by omega) (by omega)) fun a hS => st_v hS rfl rfl (run_assign hS rfl) fun a hS => wl_nil ?_
      refine ⟨x + 1, ⟨⟨by omega, fun j hj => ?_⟩, by omega⟩, (hS.sub (Sub.cons rfl (Sub.cons rfl Sub.nil)))⟩
      by_cases e : j = x
      · subst e; simp [axisGood, hc3, hc5]
      · exact hg j (by omega)
    ·
     try simp only [ty] at hc4
     refine qt_skip hS (hS.unwanted rfl rfl rfl rfl) rfl fun a hS => qt_skip hS (hS.unwanted rfl rfl rfl rfl) rfl fun a hS => qt_skip hS (hS.unwanted rfl rfl rfl rfl) rfl fun a hS => qt_skip hS (hS.unwanted rfl rfl rfl rfl) rfl fun a hS => qt_skip hS (hS.unwanted rfl rfl rfl rfl) rfl fun a hS => qt_skip hS (hS.unwanted rfl rfl rfl rfl) rfl fun a hS => qt_skip hS (hS.unwanted rfl rfl rfl rfl) rfl fun a hS => qt_skip hS (hS.unwanted rfl rfl rfl rfl) rfl fun a hS => qt_skip hS (hS.unwanted rfl rfl rfl rfl) rfl fun a hS => qt_skip hS (hS.unwanted rfl rfl rfl rfl) rfl fun a hS => qt_skip hS (hS.unwanted rfl rfl rfl rfl) rfl fun a hS => qt_skip hS (hS.unwanted rfl rfl rfl rfl) rfl fun a hS => qt_v hS (hS.wanted rfl rfl rfl) rfl (fun W hB hS => run_pick_f hS rfl rfl) fun a hS => qt_v hS rfl rfl (fun W hB hS => run_pick_f hS rfl rfl) fun a hS => qt_nil hS fun W hS => ?_
     have hS := hS.sub (κ' := [(0, _), (3, _), (37, _)]) (Sub.cons rfl (Sub.cons rfl (Sub.cons rfl Sub.nil)))
     refine st_cond_f hS rfl ?_
     refine wpIn_skip ?_
     refine wpIn_region_lit ?_
     refine st_v hS rfl rfl (run_move hS rfl) fun a hS => st_v hS rfl rfl (run_add (t := ((x + 1 : Nat) : Int)) hS rfl rfl (by omega) (by omega) (by omega)) fun a hS => st_v hS rfl rfl (run_assign hS rfl) fun a hS => wl_nil ?_
     refine ⟨x + 1, ⟨⟨by omega, fun j hj => ?_⟩, by omega⟩, (hS.sub (Sub.cons rfl (Sub.cons rfl Sub.nil)))⟩
     by_cases e : j = x
     · subst e; simp only [axisGood, hc3, Bool.true_and, Bool.or_eq_true, beq_iff_eq]; exact .inl (by omega)
     · exact hg j (by omega)
  ·
   try simp only [ty] at hc2
   refine wpIn_exit ?_
   refine wpIn_seq ?_
   refine wpIn_region_lit ?_
   refine st_v hS rfl rfl (run_assign hS rfl) fun a hS => wl_nil ?_
   refine wpIn_ret ?_
   repeat (first | refine q_ret ?_ | refine q_block_ret ?_)
   refine hS.done (res1 (fn := Tryz.f244) (r1 := .tmp 2) rfl (rv_tmp hS rfl)) ?_
   rw [axisOk_good (by simpa using hc1) (fun j hj => hg j (by omega))]


set_option maxHeartbeats 2000000 in
set_option maxRecDepth 100000 in
theorem ref01_CheckTable  (Vt : TV) (t : Tab) {w : World} {Ft : Nat → Prop} (ht : TabR Ft w Vt t)  : Ret Tryz.prog 216 [.agg (tabC Vt t).toArray] w (fun v _ => v = .int .i64 (if tabOk t then 0 else 11)) := by
 refine ret_start (n := 61) Tryz.func216 rfl rfl rfl (fun a hS => ?_)
 have Ht : ∀ W, Below w.heap.size w W → TabR Ft W Vt t := fun W hb => ht.move (keep_of hb)
 have hmtx := ht.1.len
 have hmty := ht.2.1.len
 have hmtv := ht.2.2.len
 have hmv := ht.2.2.len
 refine wpIn_seq ?_
 refine wpIn_region_lit ?_
 refine st_box_agg hS rfl rfl rfl fun W a b0 hS => st_v hS rfl rfl (run_assign hS rfl) fun a hS => wl_nil ?_
 refine wpIn_seq ?_
 refine wpIn_seq ?_
 refine wpIn_region_lit ?_
 refine st_v hS rfl rfl (run_fieldAddr fa25_0 hS rfl) fun a hS => st_v hS rfl rfl (run_load_one (i := 0) Tryz.isAgg22 hS rfl rfl rfl) fun a hS => st_call (ref01_knots Vt.x t.X ((fun W hC => (Ht W hC).1) _ hS.below)) Tryz.call244 hS rfl rfl rfl fun v W a hR hB hlt hS => ?_
 subst hR
 refine st_v hS rfl rfl (run_not hS rfl) fun a hS => st_v hS rfl rfl (run_move hS rfl) fun a hS => ?_
 refine st_split (d := 9) hS rfl (fun hc1 hS => ?_) (fun hc1 hS => ?_)
 ·
  try simp only [ty] at hc1
  refine st_skip hS (hS.unwanted rfl rfl rfl rfl) rfl fun a hS => st_skip hS (hS.unwanted rfl rfl rfl rfl) rfl fun a hS => st_skip hS (hS.unwanted rfl rfl rfl rfl) rfl fun a hS => st_skip hS (hS.unwanted rfl rfl rfl rfl) rfl fun a hS => st_v hS rfl rfl (run_pick_t hS rfl rfl) fun a hS => st_v hS rfl rfl (run_move hS rfl) fun a hS => st_skip hS (hS.unwanted rfl rfl rfl rfl) rfl fun a hS => st_skip hS (hS.unwanted rfl rfl rfl rfl) rfl fun a hS => st_skip hS (hS.unwanted rfl rfl rfl rfl) rfl fun a hS => st_skip hS (hS.unwanted rfl rfl rfl rfl) rfl fun a hS => st_skip hS (hS.unwanted rfl rfl rfl rfl) rfl fun a hS => st_skip hS (hS.unwanted rfl rfl rfl rfl) rfl fun a hS => st_skip hS (hS.unwanted rfl rfl rfl rfl) rfl fun a hS => st_v hS rfl rfl (run_pick_t hS rfl rfl) fun a hS => wl_nil ?_
  refine st_cond_t hS rfl ?_
  refine wpIn_seq ?_
  refine wpIn_region_lit ?_
  refine st_v hS rfl rfl (run_assign hS rfl) fun a hS => wl_nil ?_
  refine wpIn_ret ?_
  repeat (first | refine q_ret ?_ | refine q_block_ret ?_)
  refine hS.done (res1 (fn := Tryz.f216) (r1 := .tmp 2) rfl (rv_tmp hS rfl)) ?_
  simp [tabOk_eq, hc1]
 ·
  try simp only [ty] at hc1
  refine st_v hS (hS.wanted rfl rfl rfl) rfl (run_fieldAddr fa25_1 hS rfl) fun a hS => st_v hS (hS.wanted rfl rfl rfl) rfl (run_load_one (i := 0) Tryz.isAgg22 hS rfl rfl rfl) fun a hS => st_call (ref01_knots Vt.y t.Y ((fun W hC => (Ht W hC).2.1) _ hS.below)) Tryz.call244 hS (hS.wanted rfl rfl rfl) rfl rfl fun v W a hR hB hlt hS => ?_
  subst hR
  refine st_v hS (hS.wanted rfl rfl rfl) rfl (run_not hS rfl) fun a hS => st_v hS rfl rfl (run_pick_f hS rfl rfl) fun a hS => st_v hS rfl rfl (run_move hS rfl) fun a hS => ?_
  refine st_split (d := 15) hS rfl (fun hc2 hS => ?_) (fun hc2 hS => ?_)
  ·
   try simp only [ty] at hc2
   refine st_skip hS (hS.unwanted rfl rfl rfl rfl) rfl fun a hS => st_skip hS (hS.unwanted rfl rfl rfl rfl) rfl fun a hS => st_skip hS (hS.unwanted rfl rfl rfl rfl) rfl fun a hS => st_skip hS (hS.unwanted rfl rfl rfl rfl) rfl fun a hS => st_skip hS (hS.unwanted rfl rfl rfl rfl) rfl fun a hS => st_skip hS (hS.unwanted rfl rfl rfl rfl) rfl fun a hS => st_skip hS (hS.unwanted rfl rfl rfl rfl) rfl fun a hS => st_v hS rfl rfl (run_pick_t hS rfl rfl) fun a hS => wl_nil ?_
   refine st_cond_t hS rfl ?_
   refine wpIn_seq ?_
   refine wpIn_region_lit ?_
   refine st_v hS rfl rfl (run_assign hS rfl) fun a hS => wl_nil ?_
   refine wpIn_ret ?_
   repeat (first | refine q_ret ?_ | refine q_block_ret ?_)
   refine hS.done (res1 (fn := Tryz.f216) (r1 := .tmp 2) rfl (rv_tmp hS rfl)) ?_
   simp [tabOk_eq, hc2]
  ·
   try simp only [ty] at hc2
   refine st_v hS (hS.wanted rfl rfl rfl) rfl (run_fieldAddr fa25_2 hS rfl) fun a hS => st_v hS (hS.wanted rfl rfl rfl) rfl (run_load_one (i := 0) Tryz.isAgg23 hS rfl rfl rfl) fun a hS => st_v hS (hS.wanted rfl rfl rfl) rfl (run_len_slice Tryz.underlying23 hS rfl) fun a hS => st_v hS (hS.wanted rfl rfl rfl) rfl (run_fieldAddr fa25_0 hS rfl) fun a hS => st_v hS (hS.wanted rfl rfl rfl) rfl (run_load_one (i := 0) Tryz.isAgg22 hS rfl rfl rfl) fun a hS => st_v hS (hS.wanted rfl rfl rfl) rfl (run_len_slice Tryz.underlying22 hS rfl) fun a hS => st_v hS (hS.wanted rfl rfl rfl) rfl (run_bin hS rfl rfl rfl) fun a hS => st_v hS rfl rfl (run_pick_f hS rfl rfl) fun a hS => wl_nil ?_
   refine st_cond hS rfl (fun hc3 => ?_) (fun hc3 => ?_)
   ·
    try simp only [ty] at hc3
    refine wpIn_seq ?_
    refine wpIn_region_lit ?_
    refine st_v hS rfl rfl (run_assign hS rfl) fun a hS => wl_nil ?_
    refine wpIn_ret ?_
    repeat (first | refine q_ret ?_ | refine q_block_ret ?_)
    refine hS.done (res1 (fn := Tryz.f216) (r1 := .tmp 2) rfl (rv_tmp hS rfl)) ?_
    simp [tabOk_eq, show ¬ t.V.length = t.X.length by omega]
   ·
    try simp only [ty] at hc3
    refine wpIn_skip ?_
    refine wpIn_seq ?_
    refine wpIn_seq ?_
    refine wpIn_region_lit ?_
    refine st_v hS rfl rfl (run_assign hS rfl) fun a hS => wl_nil ?_
    refine wpIn_block ?_
    refine st_loop2 (α := Nat) (fun x => [(3, .int .i64 (((x : Nat) : Int)))]) [(0, _), (1, _)] (fun l _ => l) (fun x => x ≤ t.V.length ∧ ∀ j, j < x → rowGood t (rowOf t.V j) = true) (fun x => t.V.length - x) (0) hS (Sub.cons rfl (Sub.cons rfl (Sub.cons rfl Sub.nil))) rfl (⟨Nat.zero_le _, fun j hj => absurd hj (Nat.not_lt_zero j)⟩) (fun x W a hφ hS => ?_)
    dsimp only [setB, List.cons_append, List.nil_append, List.take] at hS
    obtain ⟨hx, hg⟩ := hφ
    refine wpIn_seq ?_
    refine wpIn_seq ?_
    refine wpIn_region_lit ?_
    refine st_v hS rfl rfl (run_move hS rfl) fun a hS => st_v hS rfl rfl (run_fieldAddr fa25_2 hS rfl) fun a hS => st_v hS rfl rfl (run_load_one (i := 0) Tryz.isAgg23 hS rfl rfl rfl) fun a hS => st_v hS rfl rfl (run_len_slice Tryz.underlying23 hS rfl) fun a hS => st_v hS rfl rfl (run_bin hS rfl rfl rfl) fun a hS => wl_nil ?_
    refine st_cond hS rfl (fun hc4 => ?_) (fun hc4 => ?_)
    ·
     try simp only [ty] at hc4
     refine wpIn_skip ?_
     refine wpIn_seq ?_
     refine wpIn_block ?_
     refine wpIn_seq ?_
     refine wpIn_seq ?_
     refine st_draw (by kernel_rfl) (by kernel_rfl) hS ?_
     refine qt_v hS rfl rfl (fun W hB hS => run_fieldAddr fa25_2 hS rfl) fun a hS => qt_v hS rfl rfl (fun W hB hS => run_load_one (i := 0) Tryz.isAgg23 hS rfl rfl rfl) fun a hS => qt_v hS rfl rfl (fun W hB hS => run_move hS rfl) fun a hS => ?_
     obtain ⟨ad0, s0, hA0, hL0, hR0⟩ := sl_rowB ((fun W hC => (Ht W hC).2.2) _ (Below.refl _ _)) (i := ((x : Nat) : Int)) (j := x) (by omega) (by omega)
     refine qt_v hS rfl rfl (fun W hB hS => run_indexAddr Tryz.underlying23 Tryz.sizeOf22 hS rfl rfl hA0 (by omega) (by omega)) fun a hS => qt_v hS rfl rfl (fun W hB hS => run_load_cell Tryz.isAgg22 hS rfl (hL0 _ hS.below)) fun a hS => qt_v hS rfl rfl (fun W hB hS => run_len_slice Tryz.underlying22 hS rfl) fun a hS => qt_v hS rfl rfl (fun W hB hS => run_fieldAddr fa25_1 hS rfl) fun a hS => qt_v hS rfl rfl (fun W hB hS => run_load_one (i := 0) Tryz.isAgg22 hS rfl rfl rfl) fun a hS => qt_v hS rfl rfl (fun W hB hS => run_len_slice Tryz.underlying22 hS rfl) fun a hS => qt_v hS rfl rfl (fun W hB hS => run_bin hS rfl rfl rfl) fun a hS => qt_nil hS fun W hS => ?_
     refine st_cond hS rfl (fun hc5 => ?_) (fun hc5 => ?_)
     ·
      try simp only [ty] at hc5
      refine wpIn_seq ?_
      refine wpIn_region_lit ?_
      refine st_v hS rfl rfl (run_assign hS rfl) fun a hS => wl_nil ?_
      refine wpIn_ret ?_
      repeat (first | refine q_ret ?_ | refine q_block_ret ?_)
      refine hS.done (res1 (fn := Tryz.f216) (r1 := .tmp 2) rfl (rv_tmp hS rfl)) ?_
      rw [tabOk_row (i := x) (by omega) (by simp [rowGood]; intro e; omega)]; rfl
     ·
      try simp only [ty] at hc5
      refine wpIn_skip ?_
      refine wpIn_seq ?_
      refine wpIn_region_lit ?_
      refine st_v hS rfl rfl (run_assign hS rfl) fun a hS => wl_nil ?_
      refine wpIn_block ?_
      refine st_loop2 (α := Nat) (fun y => [(4, .int .i64 (((y : Nat) : Int)))]) [(0, _), (1, _), (3, _)] (fun l _ => l) (fun y => y ≤ (rowOf t.V x).length ∧ ∀ j, j < y → within (ix (rowOf t.V x) j) (-1000000) 1000000 = true) (fun y => (rowOf t.V x).length - y) (0) hS (Sub.cons rfl (Sub.cons rfl (Sub.cons rfl (Sub.cons rfl Sub.nil)))) rfl (⟨Nat.zero_le _, fun j hj => absurd hj (Nat.not_lt_zero j)⟩) (fun y W a hφ hS => ?_)
      dsimp only [setB, List.cons_append, List.nil_append, List.take] at hS
      obtain ⟨hy, hgy⟩ := hφ
      have hmy := (hR0 _ (Below.refl _ _)).len
      refine wpIn_seq ?_
      refine wpIn_seq ?_
      refine wpIn_region_lit ?_
      refine st_v hS rfl rfl (run_move hS rfl) fun a hS => st_v hS rfl rfl (run_fieldAddr fa25_2 hS rfl) fun a hS => st_v hS rfl rfl (run_load_one (i := 0) Tryz.isAgg23 hS rfl rfl rfl) fun a hS => st_v hS rfl rfl (run_move hS rfl) fun a hS => ?_
      obtain ⟨ad1, s1, hA1, hL1, hR1⟩ := sl_rowB ((fun W hC => (Ht W hC).2.2) _ (Below.refl _ _)) (i := ((x : Nat) : Int)) (j := x) (by omega) (by omega)
      refine st_v hS rfl rfl (run_indexAddr Tryz.underlying23 Tryz.sizeOf22 hS rfl rfl hA1 (by omega) (by omega)) fun a hS => st_v hS rfl rfl (run_load_cell Tryz.isAgg22 hS rfl (hL1 _ hS.below)) fun a hS => st_v hS rfl rfl (run_len_slice Tryz.underlying22 hS rfl) fun a hS => st_v hS rfl rfl (run_bin hS rfl rfl rfl) fun a hS => wl_nil ?_
      refine st_cond hS rfl (fun hc6 => ?_) (fun hc6 => ?_)
      ·
       try simp only [ty] at hc6
       refine wpIn_skip ?_
       refine wpIn_seq ?_
       refine wpIn_block ?_
       refine wpIn_seq ?_
       refine wpIn_region_lit ?_
       refine st_v hS rfl rfl (run_fieldAddr fa25_2 hS rfl) fun a hS => st_v hS rfl rfl (run_load_one (i := 0) Tryz.isAgg23 hS rfl rfl rfl) fun a hS => st_v hS rfl rfl (run_move hS rfl) fun a hS => ?_
       obtain ⟨ad2, s2, hA2, hL2, hR2⟩ := sl_rowB ((fun W hC => (Ht W hC).2.2) _ (Below.refl _ _)) (i := ((x : Nat) : Int)) (j := x) (by omega) (by omega)
       refine st_v hS rfl rfl (run_indexAddr Tryz.underlying23 Tryz.sizeOf22 hS rfl rfl hA2 (by omega) (by omega)) fun a hS => st_v hS rfl rfl (run_load_cell Tryz.isAgg22 hS rfl (hL2 _ hS.below)) fun a hS => st_v hS rfl rfl (run_move hS rfl) fun a hS => ?_
       obtain ⟨ad3, hA3, hL3⟩ := sl_int hR2 (Below.refl _ _) (i := ((y : Nat) : Int)) (j := y) (by omega) (by omega)
       refine st_v hS rfl rfl (run_indexAddr Tryz.underlying22 Tryz.sizeOf3 hS rfl rfl hA3 (by omega) (by omega)) fun a hS => st_v hS rfl rfl (run_load_cell Tryz.isAgg3 hS rfl (hL3 _ hS.below)) fun a hS => st_call (ref01_From) Tryz.call222 hS rfl rfl rfl fun v W a hR hB hlt hS => ?_
       subst hR
       refine st_v hS rfl rfl (run_not hS rfl) fun a hS => wl_nil ?_
       refine st_cond hS rfl (fun hc7 => ?_) (fun hc7 => ?_)
       ·
        try simp only [ty] at hc7
        refine wpIn_seq ?_
        refine wpIn_region_lit ?_
        refine st_v hS rfl rfl (run_assign hS rfl) fun a hS => wl_nil ?_
        refine wpIn_ret ?_
        repeat (first | refine q_ret ?_ | refine q_block_ret ?_)
        refine hS.done (res1 (fn := Tryz.f216) (r1 := .tmp 2) rfl (rv_tmp hS rfl)) ?_
        rw [tabOk_row (i := x) (by omega) (by simp only [rowGood, Bool.and_eq_false_iff]; exact .inr (all_bad (i := y) (d := 0) (by omega) hc7))]; rfl
       ·
        try simp only [ty] at hc7
        refine wpIn_skip ?_
        refine wpIn_region_lit ?_
        refine st_v hS rfl rfl (run_move hS rfl) fun a hS => st_v hS rfl rfl (run_add (t := ((y + 1 : Nat) : Int)) hS rfl rfl (by omega) (by omega) (by omega)) fun a hS => st_v hS rfl rfl (run_assign hS rfl) fun a hS => wl_nil ?_
        refine ⟨y + 1, ⟨⟨by omega, fun j hj => ?_⟩, by omega⟩, (hS.sub (Sub.cons rfl (Sub.cons rfl (Sub.cons rfl (Sub.cons rfl Sub.nil)))))⟩
        by_cases e : j = y
        · subst e; simpa using hc7
        · exact hgy j (by omega)
      ·
       try simp only [ty] at hc6
       refine wpIn_exit ?_
       refine wpIn_region_lit ?_
       refine st_v hS rfl rfl (run_move hS rfl) fun a hS => st_v hS rfl rfl (run_add (t := ((x + 1 : Nat) : Int)) hS rfl rfl (by omega) (by omega) (by omega)) fun a hS => st_v hS rfl rfl (run_assign hS rfl) fun a hS => wl_nil ?_
       refine ⟨x + 1, ⟨⟨by omega, fun j hj => ?_⟩, by omega⟩, (hS.sub (Sub.cons rfl (Sub.cons rfl (Sub.cons rfl Sub.nil))))⟩
       by_cases e : j = x
       · subst e; simp only [rowGood, Bool.and_eq_true, decide_eq_true_eq]; exact ⟨by omega, all_good (d := 0) (fun k hk => hgy k (by omega))⟩
       · exact hg j (by omega)
    ·
     try simp only [ty] at hc4
     refine wpIn_exit ?_
     refine wpIn_seq ?_
     refine wpIn_region_lit ?_
     refine st_v hS rfl rfl (run_assign hS rfl) fun a hS => wl_nil ?_
     refine wpIn_ret ?_
     repeat (first | refine q_ret ?_ | refine q_block_ret ?_)
     refine hS.done (res1 (fn := Tryz.f216) (r1 := .tmp 2) rfl (rv_tmp hS rfl)) ?_
     rw [show tabOk t = true from by rw [tabOk_eq]; simp only [hc1, hc2, Bool.and_eq_true, decide_eq_true_eq, true_and]; exact ⟨by omega, all_good (d := []) (fun k hk => hg k (by omega))⟩]; rfl

end Go.Proofs.YtdnodlgebpnfoaaGreat
