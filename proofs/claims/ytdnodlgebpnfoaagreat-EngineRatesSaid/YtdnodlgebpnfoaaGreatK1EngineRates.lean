/- What the proof of EngineRates leans on, part 1: plain mathematics, the engine of the walks, the walks. -/
import Derived.Test.YtdnodlgebpnfoaaGreatK0EngineRates
set_option linter.unusedVariables false
set_option linter.unusedSimpArgs false
set_option linter.unnecessarySimpa false
namespace Go.Proofs.YtdnodlgebpnfoaaGreat
open Go Go.RowKit Go.Shelf Sw
set_option maxHeartbeats 2000000 in
set_option maxRecDepth 100000 in
theorem ref01_From  {n : Int} {lo : Int} {hi : Int} {w : World}   : Ret Tryz.prog 222 [.int .i64 n, .int .i64 lo, .int .i64 hi] w (fun v _ => v = .bool (within n lo hi)) := by
 refine ret_start (n := 15) Tryz.func222 rfl rfl rfl (fun a hS => ?_)
 refine wpIn_seq ?_
 refine wpIn_region_lit ?_
 refine st_v hS rfl rfl (run_assign hS rfl) fun a hS => wl_nil ?_
 refine wpIn_seq ?_
 refine wpIn_region_lit ?_
 refine st_v hS rfl rfl (run_move hS rfl) fun a hS => st_v hS rfl rfl (run_move hS rfl) fun a hS => st_v hS rfl rfl (run_bin hS rfl rfl rfl) fun a hS => st_v hS rfl rfl (run_move hS rfl) fun a hS => ?_
 refine st_split (d := 10) hS rfl (fun hc1 hS => ?_) (fun hc1 hS => ?_)
 ·
  try simp only [ty] at hc1
  refine st_v hS (hS.wanted rfl rfl rfl) rfl (run_move hS rfl) fun a hS => st_v hS (hS.wanted rfl rfl rfl) rfl (run_move hS rfl) fun a hS => st_v hS (hS.wanted rfl rfl rfl) rfl (run_bin hS rfl rfl rfl) fun a hS => st_v hS rfl rfl (run_pick_t hS rfl rfl) fun a hS => st_v hS rfl rfl (run_assign hS rfl) fun a hS => wl_nil ?_
  refine wpIn_ret ?_
  repeat (first | refine q_ret ?_ | refine q_block_ret ?_)
  refine hS.done (res1 (fn := Tryz.f222) (r1 := .tmp 6) rfl (rv_tmp hS rfl)) ?_
  refine vb ?_; simp [within]; try omega
 ·
  try simp only [ty] at hc1
  refine st_skip hS (hS.unwanted rfl rfl rfl rfl) rfl fun a hS => st_skip hS (hS.unwanted rfl rfl rfl rfl) rfl fun a hS => st_skip hS (hS.unwanted rfl rfl rfl rfl) rfl fun a hS => st_v hS rfl rfl (run_pick_f hS rfl rfl) fun a hS => st_v hS rfl rfl (run_assign hS rfl) fun a hS => wl_nil ?_
  refine wpIn_ret ?_
  repeat (first | refine q_ret ?_ | refine q_block_ret ?_)
  refine hS.done (res1 (fn := Tryz.f222) (r1 := .tmp 6) rfl (rv_tmp hS rfl)) ?_
  refine vb ?_; simp [within]; try omega
set_option maxHeartbeats 2000000 in
set_option maxRecDepth 100000 in
theorem ref02_from  {n : Int} {lo : Int} {hi : Int} {w : World}   : Ret Tryz.prog 174 [.int .i64 n, .int .i64 lo, .int .i64 hi] w (fun v _ => v = .bool (within n lo hi)) := by
 refine ret_start (n := 15) Tryz.func174 rfl rfl rfl (fun a hS => ?_)
 refine wpIn_seq ?_
 refine wpIn_region_lit ?_
 refine st_v hS rfl rfl (run_assign hS rfl) fun a hS => wl_nil ?_
 refine wpIn_seq ?_
 refine wpIn_region_lit ?_
 refine st_v hS rfl rfl (run_move hS rfl) fun a hS => st_v hS rfl rfl (run_move hS rfl) fun a hS => st_v hS rfl rfl (run_bin hS rfl rfl rfl) fun a hS => st_v hS rfl rfl (run_move hS rfl) fun a hS => ?_
 refine st_split (d := 10) hS rfl (fun hc1 hS => ?_) (fun hc1 hS => ?_)
 ·
  try simp only [ty] at hc1
  refine st_v hS (hS.wanted rfl rfl rfl) rfl (run_move hS rfl) fun a hS => st_v hS (hS.wanted rfl rfl rfl) rfl (run_move hS rfl) fun a hS => st_v hS (hS.wanted rfl rfl rfl) rfl (run_bin hS rfl rfl rfl) fun a hS => st_v hS rfl rfl (run_pick_t hS rfl rfl) fun a hS => st_v hS rfl rfl (run_assign hS rfl) fun a hS => wl_nil ?_
  refine wpIn_ret ?_
  repeat (first | refine q_ret ?_ | refine q_block_ret ?_)
  refine hS.done (res1 (fn := Tryz.f174) (r1 := .tmp 6) rfl (rv_tmp hS rfl)) ?_
  refine vb ?_; simp [within]; try omega
 ·
  try simp only [ty] at hc1
  refine st_skip hS (hS.unwanted rfl rfl rfl rfl) rfl fun a hS => st_skip hS (hS.unwanted rfl rfl rfl rfl) rfl fun a hS => st_skip hS (hS.unwanted rfl rfl rfl rfl) rfl fun a hS => st_v hS rfl rfl (run_pick_f hS rfl rfl) fun a hS => st_v hS rfl rfl (run_assign hS rfl) fun a hS => wl_nil ?_
  refine wpIn_ret ?_
  repeat (first | refine q_ret ?_ | refine q_block_ret ?_)
  refine hS.done (res1 (fn := Tryz.f174) (r1 := .tmp 6) rfl (rv_tmp hS rfl)) ?_
  refine vb ?_; simp [within]; try omega
set_option maxHeartbeats 2000000 in
set_option maxRecDepth 100000 in
theorem spans_within  {n : Int} {lo : Int} {hi : Int} {w : World}   : Ret Tryz.prog 209 [.int .i64 n, .int .i64 lo, .int .i64 hi] w (fun v _ => v = .bool (within n lo hi)) := by
 refine ret_start (n := 15) Tryz.func209 rfl rfl rfl (fun a hS => ?_)
 refine wpIn_seq ?_
 refine wpIn_region_lit ?_
 refine st_v hS rfl rfl (run_assign hS rfl) fun a hS => wl_nil ?_
 refine wpIn_seq ?_
 refine wpIn_region_lit ?_
 refine st_v hS rfl rfl (run_move hS rfl) fun a hS => st_v hS rfl rfl (run_move hS rfl) fun a hS => st_v hS rfl rfl (run_bin hS rfl rfl rfl) fun a hS => st_v hS rfl rfl (run_move hS rfl) fun a hS => ?_
 refine st_split (d := 10) hS rfl (fun hc1 hS => ?_) (fun hc1 hS => ?_)
 ·
  try simp only [ty] at hc1
  refine st_v hS (hS.wanted rfl rfl rfl) rfl (run_move hS rfl) fun a hS => st_v hS (hS.wanted rfl rfl rfl) rfl (run_move hS rfl) fun a hS => st_v hS (hS.wanted rfl rfl rfl) rfl (run_bin hS rfl rfl rfl) fun a hS => st_v hS rfl rfl (run_pick_t hS rfl rfl) fun a hS => st_v hS rfl rfl (run_assign hS rfl) fun a hS => wl_nil ?_
  refine wpIn_ret ?_
  repeat (first | refine q_ret ?_ | refine q_block_ret ?_)
  refine hS.done (res1 (fn := Tryz.f209) (r1 := .tmp 6) rfl (rv_tmp hS rfl)) ?_
  refine vb ?_; simp [within]; try omega
 ·
  try simp only [ty] at hc1
  refine st_skip hS (hS.unwanted rfl rfl rfl rfl) rfl fun a hS => st_skip hS (hS.unwanted rfl rfl rfl rfl) rfl fun a hS => st_skip hS (hS.unwanted rfl rfl rfl rfl) rfl fun a hS => st_v hS rfl rfl (run_pick_f hS rfl rfl) fun a hS => st_v hS rfl rfl (run_assign hS rfl) fun a hS => wl_nil ?_
  refine wpIn_ret ?_
  repeat (first | refine q_ret ?_ | refine q_block_ret ?_)
  refine hS.done (res1 (fn := Tryz.f209) (r1 := .tmp 6) rfl (rv_tmp hS rfl)) ?_
  refine vb ?_; simp [within]; try omega
set_option maxHeartbeats 2000000 in
set_option maxRecDepth 100000 in
theorem rotor_within  {n : Int} {lo : Int} {hi : Int} {w : World}   : Ret Tryz.prog 81 [.int .i64 n, .int .i64 lo, .int .i64 hi] w (fun v _ => v = .bool (within n lo hi)) := by
 refine ret_start (n := 15) Tryz.func81 rfl rfl rfl (fun a hS => ?_)
 refine wpIn_seq ?_
 refine wpIn_region_lit ?_
 refine st_v hS rfl rfl (run_assign hS rfl) fun a hS => wl_nil ?_
 refine wpIn_seq ?_
 refine wpIn_region_lit ?_
 refine st_v hS rfl rfl (run_move hS rfl) fun a hS => st_v hS rfl rfl (run_move hS rfl) fun a hS => st_v hS rfl rfl (run_bin hS rfl rfl rfl) fun a hS => st_v hS rfl rfl (run_move hS rfl) fun a hS => ?_
 refine st_split (d := 10) hS rfl (fun hc1 hS => ?_) (fun hc1 hS => ?_)
 ·
  try simp only [ty] at hc1
  refine st_v hS (hS.wanted rfl rfl rfl) rfl (run_move hS rfl) fun a hS => st_v hS (hS.wanted rfl rfl rfl) rfl (run_move hS rfl) fun a hS => st_v hS (hS.wanted rfl rfl rfl) rfl (run_bin hS rfl rfl rfl) fun a hS => st_v hS rfl rfl (run_pick_t hS rfl rfl) fun a hS => st_v hS rfl rfl (run_assign hS rfl) fun a hS => wl_nil ?_
  refine wpIn_ret ?_
  repeat (first | refine q_ret ?_ | refine q_block_ret ?_)
  refine hS.done (res1 (fn := Tryz.f81) (r1 := .tmp 6) rfl (rv_tmp hS rfl)) ?_
  refine vb ?_; simp [within]; try omega
 ·
  try simp only [ty] at hc1
  refine st_skip hS (hS.unwanted rfl rfl rfl rfl) rfl fun a hS => st_skip hS (hS.unwanted rfl rfl rfl rfl) rfl fun a hS => st_skip hS (hS.unwanted rfl rfl rfl rfl) rfl fun a hS => st_v hS rfl rfl (run_pick_f hS rfl rfl) fun a hS => st_v hS rfl rfl (run_assign hS rfl) fun a hS => wl_nil ?_
  refine wpIn_ret ?_
  repeat (first | refine q_ret ?_ | refine q_block_ret ?_)
  refine hS.done (res1 (fn := Tryz.f81) (r1 := .tmp 6) rfl (rv_tmp hS rfl)) ?_
  refine vb ?_; simp [within]; try omega
set_option maxHeartbeats 2000000 in
set_option maxRecDepth 100000 in
theorem engine_within  {n : Int} {lo : Int} {hi : Int} {w : World}   : Ret Tryz.prog 152 [.int .i64 n, .int .i64 lo, .int .i64 hi] w (fun v _ => v = .bool (within n lo hi)) := by
 refine ret_start (n := 15) Tryz.func152 rfl rfl rfl (fun a hS => ?_)
 refine wpIn_seq ?_
 refine wpIn_region_lit ?_
 refine st_v hS rfl rfl (run_assign hS rfl) fun a hS => wl_nil ?_
 refine wpIn_seq ?_
 refine wpIn_region_lit ?_
 refine st_v hS rfl rfl (run_move hS rfl) fun a hS => st_v hS rfl rfl (run_move hS rfl) fun a hS => st_v hS rfl rfl (run_bin hS rfl rfl rfl) fun a hS => st_v hS rfl rfl (run_move hS rfl) fun a hS => ?_
 refine st_split (d := 10) hS rfl (fun hc1 hS => ?_) (fun hc1 hS => ?_)
 ·
  try simp only [ty] at hc1
  refine st_v hS (hS.wanted rfl rfl rfl) rfl (run_move hS rfl) fun a hS => st_v hS (hS.wanted rfl rfl rfl) rfl (run_move hS rfl) fun a hS => st_v hS (hS.wanted rfl rfl rfl) rfl (run_bin hS rfl rfl rfl) fun a hS => st_v hS rfl rfl (run_pick_t hS rfl rfl) fun a hS => st_v hS rfl rfl (run_assign hS rfl) fun a hS => wl_nil ?_
  refine wpIn_ret ?_
  repeat (first | refine q_ret ?_ | refine q_block_ret ?_)
  refine hS.done (res1 (fn := Tryz.f152) (r1 := .tmp 6) rfl (rv_tmp hS rfl)) ?_
  refine vb ?_; simp [within]; try omega
 ·
  try simp only [ty] at hc1
  refine st_skip hS (hS.unwanted rfl rfl rfl rfl) rfl fun a hS => st_skip hS (hS.unwanted rfl rfl rfl rfl) rfl fun a hS => st_skip hS (hS.unwanted rfl rfl rfl rfl) rfl fun a hS => st_v hS rfl rfl (run_pick_f hS rfl rfl) fun a hS => st_v hS rfl rfl (run_assign hS rfl) fun a hS => wl_nil ?_
  refine wpIn_ret ?_
  repeat (first | refine q_ret ?_ | refine q_block_ret ?_)
  refine hS.done (res1 (fn := Tryz.f152) (r1 := .tmp 6) rfl (rv_tmp hS rfl)) ?_
  refine vb ?_; simp [within]; try omega
set_option maxHeartbeats 2000000 in
set_option maxRecDepth 100000 in
theorem ref03_within  {n : Int} {lo : Int} {hi : Int} {w : World}   : Ret Tryz.prog 139 [.int .i64 n, .int .i64 lo, .int .i64 hi] w (fun v _ => v = .bool (within n lo hi)) := by
 refine ret_start (n := 15) Tryz.func139 rfl rfl rfl (fun a hS => ?_)
 refine wpIn_seq ?_
 refine wpIn_region_lit ?_
 refine st_v hS rfl rfl (run_assign hS rfl) fun a hS => wl_nil ?_
 refine wpIn_seq ?_
 refine wpIn_region_lit ?_
 refine st_v hS rfl rfl (run_move hS rfl) fun a hS => st_v hS rfl rfl (run_move hS rfl) fun a hS => st_v hS rfl rfl (run_bin hS rfl rfl rfl) fun a hS => st_v hS rfl rfl (run_move hS rfl) fun a hS => ?_
 refine st_split (d := 10) hS rfl (fun hc1 hS => ?_) (fun hc1 hS => ?_)
 ·
  try simp only [ty] at hc1
  refine st_v hS (hS.wanted rfl rfl rfl) rfl (run_move hS rfl) fun a hS => st_v hS (hS.wanted rfl rfl rfl) rfl (run_move hS rfl) fun a hS => st_v hS (hS.wanted rfl rfl rfl) rfl (run_bin hS rfl rfl rfl) fun a hS => st_v hS rfl rfl (run_pick_t hS rfl rfl) fun a hS => st_v hS rfl rfl (run_assign hS rfl) fun a hS => wl_nil ?_
  refine wpIn_ret ?_
  repeat (first | refine q_ret ?_ | refine q_block_ret ?_)
  refine hS.done (res1 (fn := Tryz.f139) (r1 := .tmp 6) rfl (rv_tmp hS rfl)) ?_
  refine vb ?_; simp [within]; try omega
 ·
  try simp only [ty] at hc1
  refine st_skip hS (hS.unwanted rfl rfl rfl rfl) rfl fun a hS => st_skip hS (hS.unwanted rfl rfl rfl rfl) rfl fun a hS => st_skip hS (hS.unwanted rfl rfl rfl rfl) rfl fun a hS => st_v hS rfl rfl (run_pick_f hS rfl rfl) fun a hS => st_v hS rfl rfl (run_assign hS rfl) fun a hS => wl_nil ?_
  refine wpIn_ret ?_
  repeat (first | refine q_ret ?_ | refine q_block_ret ?_)
  refine hS.done (res1 (fn := Tryz.f139) (r1 := .tmp 6) rfl (rv_tmp hS rfl)) ?_
  refine vb ?_; simp [within]; try omega
set_option maxHeartbeats 2000000 in
set_option maxRecDepth 100000 in
theorem ref01_Valid  (a : Span) {w : World}   : Ret Tryz.prog 184 [.agg (spanC a).toArray] w (fun v _ => v = .bool a.ok) := by
 refine ret_start (n := 13) Tryz.func184 rfl rfl rfl (fun a hS => ?_)
 refine wpIn_seq ?_
 refine wpIn_region_lit ?_
 refine st_box_agg hS rfl rfl rfl fun W a b0 hS => st_v hS rfl rfl (run_assign hS rfl) fun a hS => wl_nil ?_
 refine wpIn_seq ?_
 refine wpIn_region_lit ?_
 refine st_v hS rfl rfl (run_fieldAddr fa31_0 hS rfl) fun a hS => st_v hS rfl rfl (run_load_one (i := 0) Tryz.isAgg3 hS rfl rfl rfl) fun a hS => st_call (ref01_From) Tryz.call222 hS rfl rfl rfl fun v W a hR hB hlt hS => ?_
 subst hR
 refine st_v hS rfl rfl (run_move hS rfl) fun a hS => ?_
 refine st_split (d := 6) hS rfl (fun hc1 hS => ?_) (fun hc1 hS => ?_)
 ·
  try simp only [ty] at hc1
  refine st_v hS (hS.wanted rfl rfl rfl) rfl (run_fieldAddr fa31_1 hS rfl) fun a hS => st_v hS (hS.wanted rfl rfl rfl) rfl (run_load_one (i := 0) Tryz.isAgg3 hS rfl rfl rfl) fun a hS => st_v hS (hS.wanted rfl rfl rfl) rfl (run_fieldAddr fa31_0 hS rfl) fun a hS => st_v hS (hS.wanted rfl rfl rfl) rfl (run_load_one (i := 0) Tryz.isAgg3 hS rfl rfl rfl) fun a hS => st_call (ref01_From) Tryz.call222 hS (hS.wanted rfl rfl rfl) rfl rfl fun v W a hR hB hlt hS => ?_
  subst hR
  refine st_v hS rfl rfl (run_pick_t hS rfl rfl) fun a hS => st_v hS rfl rfl (run_assign hS rfl) fun a hS => wl_nil ?_
  refine wpIn_ret ?_
  repeat (first | refine q_ret ?_ | refine q_block_ret ?_)
  refine hS.done (res1 (fn := Tryz.f184) (r1 := .tmp 2) rfl (rv_tmp hS rfl)) ?_
  refine vb ?_; simp [within] at hc1; simp [within, Span.ok_iff]; try omega
 ·
  try simp only [ty] at hc1
  refine st_skip hS (hS.unwanted rfl rfl rfl rfl) rfl fun a hS => st_skip hS (hS.unwanted rfl rfl rfl rfl) rfl fun a hS => st_skip hS (hS.unwanted rfl rfl rfl rfl) rfl fun a hS => st_skip hS (hS.unwanted rfl rfl rfl rfl) rfl fun a hS => st_skip hS (hS.unwanted rfl rfl rfl rfl) rfl fun a hS => st_v hS rfl rfl (run_pick_f hS rfl rfl) fun a hS => st_v hS rfl rfl (run_assign hS rfl) fun a hS => wl_nil ?_
  refine wpIn_ret ?_
  repeat (first | refine q_ret ?_ | refine q_block_ret ?_)
  refine hS.done (res1 (fn := Tryz.f184) (r1 := .tmp 2) rfl (rv_tmp hS rfl)) ?_
  refine vb ?_; simp [within] at hc1; simp [within, Span.ok_iff]; try omega
set_option maxHeartbeats 2000000 in
set_option maxRecDepth 100000 in
theorem ref01_knots  (sl : SV) (l : List Int) {w : World} {Fl : Nat → Prop} (hl : Sl kInt Fl w sl l)  : Ret Tryz.prog 244 [.slice sl.a l.length sl.c] w (fun v _ => v = .bool (axisOk l)) := by
 refine ret_start (n := 38) Tryz.func244 rfl rfl rfl (fun a hS => ?_)
 have Hl : ∀ W, Below w.heap.size w W → Sl kInt Fl W sl l := fun W hb => hl.at_ hb
 have hml := hl.len
 refine wpIn_seq ?_
 refine wpIn_region_lit ?_
 refine st_v hS rfl rfl (run_assign hS rfl) fun a hS => wl_nil ?_
 refine wpIn_seq ?_
 refine wpIn_seq ?_
 refine wpIn_region_lit ?_
 refine st_v hS rfl rfl (run_move hS rfl) fun a hS => st_v hS rfl rfl (run_len_slice Tryz.underlying22 hS rfl) fun a hS => st_call (ref01_From) Tryz.call222 hS rfl rfl rfl fun v W a hR hB hlt hS => ?_
 subst hR
 refine st_v hS rfl rfl (run_not hS rfl) fun a hS => wl_nil ?_
 refine st_cond hS rfl (fun hc1 => ?_) (fun hc1 => ?_)
 ·
  try simp only [ty] at hc1
  refine wpIn_seq ?_
  refine wpIn_region_lit ?_
  refine st_v hS rfl rfl (run_assign hS rfl) fun a hS => wl_nil ?_
  refine wpIn_ret ?_
  repeat (first | refine q_ret ?_ | refine q_block_ret ?_)
  refine hS.done (res1 (fn := Tryz.f244) (r1 := .tmp 2) rfl (rv_tmp hS rfl)) ?_
  rw [axisOk_len (by simpa using hc1)]
 ·
  try simp only [ty] at hc1
  refine wpIn_skip ?_
  refine wpIn_seq ?_
  refine wpIn_seq ?_
  refine wpIn_region_lit ?_
  refine st_v hS rfl rfl (run_assign hS rfl) fun a hS => wl_nil ?_
  refine wpIn_block ?_
  refine st_loop2 (α := Nat) (fun x => [(3, .int .i64 (((x : Nat) : Int)))]) [(0, _)] (fun l _ => l) (fun x => x ≤ l.length ∧ ∀ j, j < x → axisGood l j = true) (fun x => l.length - x) (0) hS (Sub.cons rfl (Sub.cons rfl Sub.nil)) rfl (⟨Nat.zero_le _, fun j hj => absurd hj (Nat.not_lt_zero j)⟩) (fun x W a hφ hS => ?_)
  dsimp only [setB, List.cons_append, List.nil_append, List.take] at hS
  obtain ⟨hx, hg⟩ := hφ
  refine wpIn_seq ?_
  refine wpIn_seq ?_
  refine wpIn_region_lit ?_
  refine st_v hS rfl rfl (run_move hS rfl) fun a hS => st_v hS rfl rfl (run_move hS rfl) fun a hS => st_v hS rfl rfl (run_len_slice Tryz.underlying22 hS rfl) fun a hS => st_v hS rfl rfl (run_bin hS rfl rfl rfl) fun a hS => wl_nil ?_
  refine st_cond hS rfl (fun hc2 => ?_) (fun hc2 => ?_)
  ·
   try simp only [ty] at hc2
   refine wpIn_skip ?_
   refine wpIn_seq ?_
   refine wpIn_block ?_
   refine wpIn_seq ?_
   refine st_draw (by kernel_rfl) (by kernel_rfl) hS ?_
   refine qt_v hS rfl rfl (fun W hB hS => run_move hS rfl) fun a hS => qt_v hS rfl rfl (fun W hB hS => run_move hS rfl) fun a hS => ?_
   obtain ⟨ad0, hA0, hL0⟩ := sl_int Hl (Below.refl _ _) (i := ((x : Nat) : Int)) (j := x) (by omega) (by omega)
   refine qt_v hS rfl rfl (fun W hB hS => run_indexAddr Tryz.underlying22 Tryz.sizeOf3 hS rfl rfl hA0 (by omega) (by omega)) fun a hS => qt_v hS rfl rfl (fun W hB hS => run_load_cell Tryz.isAgg3 hS rfl (hL0 _ hS.below)) fun a hS => qt_call hS rfl rfl Tryz.call222 rfl (fun W hB hS => ref01_From) fun a hS => qt_v hS rfl rfl (fun W hB hS => run_not hS rfl) fun a hS => qt_v hS rfl rfl (fun W hB hS => run_move hS rfl) fun a hS => ?_
   refine st_split (d := 20) hS rfl (fun hc3 hS => ?_) (fun hc3 hS => ?_)
   ·
    try simp only [ty] at hc3
    refine qt_skip hS (hS.unwanted rfl rfl rfl rfl) rfl fun a hS => qt_skip hS (hS.unwanted rfl rfl rfl rfl) rfl fun a hS => qt_skip hS (hS.unwanted rfl rfl rfl rfl) rfl fun a hS => qt_skip hS (hS.unwantedU rfl rfl rfl) rfl fun a hS => qt_skip hS (hS.unwantedU rfl rfl rfl) rfl fun a hS => qt_skip hS (hS.unwantedU rfl rfl rfl) rfl fun a hS => qt_skip hS (hS.unwantedU rfl rfl rfl) rfl fun a hS => qt_skip hS (hS.unwantedU rfl rfl rfl) rfl fun a hS => qt_skip hS (hS.unwantedU rfl rfl rfl) rfl fun a hS => qt_skip hS (hS.unwantedU rfl rfl rfl) rfl fun a hS => qt_skip hS (hS.unwantedU rfl rfl rfl) rfl fun a hS => qt_skip hS (hS.unwantedU rfl rfl rfl) rfl fun a hS => qt_skip hS (hS.unwantedU rfl rfl rfl) rfl fun a hS => qt_skip hS (hS.unwantedU rfl rfl rfl) rfl fun a hS => qt_skip hS (hS.unwantedU rfl rfl rfl) rfl fun a hS => qt_skip hS (hS.unwanted rfl rfl rfl rfl) rfl fun a hS => qt_v hS rfl rfl (fun W hB hS => run_pick_t hS rfl rfl) fun a hS => qt_nil hS fun W hS => ?_
    have hS := hS.sub (κ' := [(0, _), (3, _), (37, _)]) (Sub.cons rfl (Sub.cons rfl (Sub.cons rfl Sub.nil)))
    refine st_cond_t hS rfl ?_
    refine wpIn_seq ?_
    refine wpIn_region_lit ?_
    refine st_v hS rfl rfl (run_assign hS rfl) fun a hS => wl_nil ?_
    refine wpIn_ret ?_
    repeat (first | refine q_ret ?_ | refine q_block_ret ?_)
    refine hS.done (res1 (fn := Tryz.f244) (r1 := .tmp 2) rfl (rv_tmp hS rfl)) ?_
    rw [axisOk_bad (i := x) (by omega) (by simp [axisGood, hc3])]
   ·
    try simp only [ty] at hc3
    refine qt_v hS (hS.wanted rfl rfl rfl) rfl (fun W hB hS => run_move hS rfl) fun a hS => qt_v hS (hS.wanted rfl rfl rfl) rfl (fun W hB hS => run_bin hS rfl rfl rfl) fun a hS => qt_v hS (hS.wanted rfl rfl rfl) rfl (fun W hB hS => run_move hS rfl) fun a hS => ?_
    refine st_split (d := 23) hS rfl (fun hc4 hS => ?_) (fun hc4 hS => ?_)
    ·
     try simp only [ty] at hc4
     have hx0 : 0 < x := by omega
     have hb1 : -1000000 ≤ ix l x ∧ ix l x ≤ 1000000 := by simpa [within] using hc3
     have hb2 := hg (x - 1) (by omega)
     simp only [axisGood, within, Bool.and_eq_true, decide_eq_true_eq] at hb2
     refine qt_v hS (hS.wanted rfl rfl rfl) rfl (fun W hB hS => run_move hS rfl) fun a hS => qt_v hS (hS.wanted rfl rfl rfl) rfl (fun W hB hS => run_move hS rfl) fun a hS => ?_
     obtain ⟨ad1, hA1, hL1⟩ := sl_int Hl (Below.refl _ _) (i := ((x : Nat) : Int)) (j := x) (by omega) (by omega)
     refine qt_v hS (hS.wanted rfl rfl rfl) rfl (fun W hB hS => run_indexAddr Tryz.underlying22 Tryz.sizeOf3 hS rfl rfl hA1 (by omega) (by omega)) fun a hS => qt_v hS (hS.wanted rfl rfl rfl) rfl (fun W hB hS => run_load_cell Tryz.isAgg3 hS rfl (hL1 _ hS.below)) fun a hS => qt_v hS (hS.wanted rfl rfl rfl) rfl (fun W hB hS => run_move hS rfl) fun a hS => qt_v hS (hS.wanted rfl rfl rfl) rfl (fun W hB hS => run_move hS rfl) fun a hS => qt_v hS (hS.wanted rfl rfl rfl) rfl (fun W hB hS => run_sub (t := ((x - 1 : Nat) : Int)) hS rfl rfl (by omega) (by omega) (by omega)) fun a hS => ?_
     obtain ⟨ad2, hA2, hL2⟩ := sl_int Hl (Below.refl _ _) (i := ((x - 1 : Nat) : Int)) (j := x - 1) (by omega) (by omega)
     refine qt_v hS (hS.wanted rfl rfl rfl) rfl (fun W hB hS => run_indexAddr Tryz.underlying22 Tryz.sizeOf3 hS rfl rfl hA2 (by omega) (by omega)) fun a hS => qt_v hS (hS.wanted rfl rfl rfl) rfl (fun W hB hS => run_load_cell Tryz.isAgg3 hS rfl (hL2 _ hS.below)) fun a hS => qt_v hS (hS.wanted rfl rfl rfl) rfl (fun W hB hS => run_sub (t := ((ix l (x))) - ((ix l (x - 1)))) hS rfl rfl (rfl) (by omega) (by omega)) fun a hS => qt_call hS (hS.wanted rfl rfl rfl) rfl Tryz.call222 rfl (fun W hB hS => ref01_From) fun a hS => qt_v hS (hS.wanted rfl rfl rfl) rfl (fun W hB hS => run_not hS rfl) fun a hS => qt_v hS (hS.wanted rfl rfl rfl) rfl (fun W hB hS => run_pick_t hS rfl rfl) fun a hS => qt_v hS rfl rfl (fun W hB hS => run_pick_f hS rfl rfl) fun a hS => qt_nil hS fun W hS => ?_
     have hS := hS.sub (κ' := [(0, _), (3, _), (37, _)]) (Sub.cons rfl (Sub.cons rfl (Sub.cons rfl Sub.nil)))
     refine st_cond hS rfl (fun hc5 => ?_) (fun hc5 => ?_)
     ·
      try simp only [ty] at hc5
      refine wpIn_seq ?_
      refine wpIn_region_lit ?_
      refine st_v hS rfl rfl (run_assign hS rfl) fun a hS => wl_nil ?_
      refine wpIn_ret ?_
      repeat (first | refine q_ret ?_ | refine q_block_ret ?_)
      refine hS.done (res1 (fn := Tryz.f244) (r1 := .tmp 2) rfl (rv_tmp hS rfl)) ?_
      rw [axisOk_bad (i := x) (by omega) (by simp [axisGood, hc5]; omega)]
     ·
      try simp only [ty] at hc5
      refine wpIn_skip ?_
      refine wpIn_region_lit ?_
      refine st_v hS rfl rfl (run_move hS rfl) fun a hS => st_v hS rfl rfl (run_add (t := ((x + 1 : Nat) : Int)) hS rfl rfl (by omega) (by omega) (by omega)) fun a hS => st_v hS rfl rfl (run_assign hS rfl) fun a hS => wl_nil ?_
      refine ⟨x + 1, ⟨⟨by omega, fun j hj => ?_⟩, by omega⟩, (hS.sub (Sub.cons rfl (Sub.cons rfl Sub.nil)))⟩
      by_cases e : j = x
      · subst e; simp [axisGood, hc3, hc5]
      · exact hg j (by omega)
    ·
     try simp only [ty] at hc4
     refine qt_skip hS (hS.unwanted rfl rfl rfl rfl) rfl fun a hS => qt_skip hS (hS.unwanted rfl rfl rfl rfl) rfl fun a hS => qt_skip hS (hS.unwanted rfl rfl rfl rfl) rfl fun a hS => qt_skip hS (hS.unwanted rfl rfl rfl rfl) rfl fun a hS => qt_skip hS (hS.unwanted rfl rfl rfl rfl) rfl fun a hS => qt_skip hS (hS.unwanted rfl rfl rfl rfl) rfl fun a hS => qt_skip hS (hS.unwanted rfl rfl rfl rfl) rfl fun a hS => qt_skip hS (hS.unwanted rfl rfl rfl rfl) rfl fun a hS => qt_skip hS (hS.unwanted rfl rfl rfl rfl) rfl fun a hS => qt_skip hS (hS.unwanted rfl rfl rfl rfl) rfl fun a hS => qt_skip hS (hS.unwanted rfl rfl rfl rfl) rfl fun a hS => qt_skip hS (hS.unwanted rfl rfl rfl rfl) rfl fun a hS => qt_v hS (hS.wanted rfl rfl rfl) rfl (fun W hB hS => run_pick_f hS rfl rfl) fun a hS => qt_v hS rfl rfl (fun W hB hS => run_pick_f hS rfl rfl) fun a hS => qt_nil hS fun W hS => ?_
     have hS := hS.sub (κ' := [(0, _), (3, _), (37, _)]) (Sub.cons rfl (Sub.cons rfl (Sub.cons rfl Sub.nil)))
     refine st_cond_f hS rfl ?_
     refine wpIn_skip ?_
     refine wpIn_region_lit ?_
     refine st_v hS rfl rfl (run_move hS rfl) fun a hS => st_v hS rfl rfl (run_add (t := ((x + 1 : Nat) : Int)) hS rfl rfl (by omega) (by omega) (by omega)) fun a hS => st_v hS rfl rfl (run_assign hS rfl) fun a hS => wl_nil ?_
     refine ⟨x + 1, ⟨⟨by omega, fun j hj => ?_⟩, by omega⟩, (hS.sub (Sub.cons rfl (Sub.cons rfl Sub.nil)))⟩
     by_cases e : j = x
     · subst e; simp only [axisGood, hc3, Bool.true_and, Bool.or_eq_true, beq_iff_eq]; exact .inl (by omega)
     · exact hg j (by omega)
  ·
   try simp only [ty] at hc2
   refine wpIn_exit ?_
   refine wpIn_seq ?_
   refine wpIn_region_lit ?_
   refine st_v hS rfl rfl (run_assign hS rfl) fun a hS => wl_nil ?_
   refine wpIn_ret ?_
   repeat (first | refine q_ret ?_ | refine q_block_ret ?_)
   refine hS.done (res1 (fn := Tryz.f244) (r1 := .tmp 2) rfl (rv_tmp hS rfl)) ?_
   rw [axisOk_good (by simpa using hc1) (fun j hj => hg j (by omega))]
set_option maxHeartbeats 2000000 in
set_option maxRecDepth 100000 in
theorem ref01_CheckTable  (Vt : TV) (t : Tab) {w : World} {Ft : Nat → Prop} (ht : TabR Ft w Vt t)  : Ret Tryz.prog 216 [.agg (tabC Vt t).toArray] w (fun v _ => v = .int .i64 (if tabOk t then 0 else 11)) := by
 refine ret_start (n := 61) Tryz.func216 rfl rfl rfl (fun a hS => ?_)
 have Ht : ∀ W, Below w.heap.size w W → TabR Ft W Vt t := fun W hb => ht.move (keep_of hb)
 have hmtx := ht.1.len
 have hmty := ht.2.1.len
 have hmtv := ht.2.2.len
 have hmv := ht.2.2.len
 refine wpIn_seq ?_
 refine wpIn_region_lit ?_
 refine st_box_agg hS rfl rfl rfl fun W a b0 hS => st_v hS rfl rfl (run_assign hS rfl) fun a hS => wl_nil ?_
 refine wpIn_seq ?_
 refine wpIn_seq ?_
 refine wpIn_region_lit ?_
 refine st_v hS rfl rfl (run_fieldAddr fa25_0 hS rfl) fun a hS => st_v hS rfl rfl (run_load_one (i := 0) Tryz.isAgg22 hS rfl rfl rfl) fun a hS => st_call (ref01_knots Vt.x t.X ((fun W hC => (Ht W hC).1) _ hS.below)) Tryz.call244 hS rfl rfl rfl fun v W a hR hB hlt hS => ?_
 subst hR
 refine st_v hS rfl rfl (run_not hS rfl) fun a hS => st_v hS rfl rfl (run_move hS rfl) fun a hS => ?_
 refine st_split (d := 9) hS rfl (fun hc1 hS => ?_) (fun hc1 hS => ?_)
 ·
  try simp only [ty] at hc1
  refine st_skip hS (hS.unwanted rfl rfl rfl rfl) rfl fun a hS => st_skip hS (hS.unwanted rfl rfl rfl rfl) rfl fun a hS => st_skip hS (hS.unwanted rfl rfl rfl rfl) rfl fun a hS => st_skip hS (hS.unwanted rfl rfl rfl rfl) rfl fun a hS => st_v hS rfl rfl (run_pick_t hS rfl rfl) fun a hS => st_v hS rfl rfl (run_move hS rfl) fun a hS => st_skip hS (hS.unwanted rfl rfl rfl rfl) rfl fun a hS => st_skip hS (hS.unwanted rfl rfl rfl rfl) rfl fun a hS => st_skip hS (hS.unwanted rfl rfl rfl rfl) rfl fun a hS => st_skip hS (hS.unwanted rfl rfl rfl rfl) rfl fun a hS => st_skip hS (hS.unwanted rfl rfl rfl rfl) rfl fun a hS => st_skip hS (hS.unwanted rfl rfl rfl rfl) rfl fun a hS => st_skip hS (hS.unwanted rfl rfl rfl rfl) rfl fun a hS => st_v hS rfl rfl (run_pick_t hS rfl rfl) fun a hS => wl_nil ?_
  refine st_cond_t hS rfl ?_
  refine wpIn_seq ?_
  refine wpIn_region_lit ?_
  refine st_v hS rfl rfl (run_assign hS rfl) fun a hS => wl_nil ?_
  refine wpIn_ret ?_
  repeat (first | refine q_ret ?_ | refine q_block_ret ?_)
  refine hS.done (res1 (fn := Tryz.f216) (r1 := .tmp 2) rfl (rv_tmp hS rfl)) ?_
  simp [tabOk_eq, hc1]
 ·
  try simp only [ty] at hc1
  refine st_v hS (hS.wanted rfl rfl rfl) rfl (run_fieldAddr fa25_1 hS rfl) fun a hS => st_v hS (hS.wanted rfl rfl rfl) rfl (run_load_one (i := 0) Tryz.isAgg22 hS rfl rfl rfl) fun a hS => st_call (ref01_knots Vt.y t.Y ((fun W hC => (Ht W hC).2.1) _ hS.below)) Tryz.call244 hS (hS.wanted rfl rfl rfl) rfl rfl fun v W a hR hB hlt hS => ?_
  subst hR
  refine st_v hS (hS.wanted rfl rfl rfl) rfl (run_not hS rfl) fun a hS => st_v hS rfl rfl (run_pick_f hS rfl rfl) fun a hS => st_v hS rfl rfl (run_move hS rfl) fun a hS => ?_
  refine st_split (d := 15) hS rfl (fun hc2 hS => ?_) (fun hc2 hS => ?_)
  ·
   try simp only [ty] at hc2
   refine st_skip hS (hS.unwanted rfl rfl rfl rfl) rfl fun a hS => st_skip hS (hS.unwanted rfl rfl rfl rfl) rfl fun a hS => st_skip hS (hS.unwanted rfl rfl rfl rfl) rfl fun a hS => st_skip hS (hS.unwanted rfl rfl rfl rfl) rfl fun a hS => st_skip hS (hS.unwanted rfl rfl rfl rfl) rfl fun a hS => st_skip hS (hS.unwanted rfl rfl rfl rfl) rfl fun a hS => st_skip hS (hS.unwanted rfl rfl rfl rfl) rfl fun a hS => st_v hS rfl rfl (run_pick_t hS rfl rfl) fun a hS => wl_nil ?_
   refine st_cond_t hS rfl ?_
   refine wpIn_seq ?_
   refine wpIn_region_lit ?_
   refine st_v hS rfl rfl (run_assign hS rfl) fun a hS => wl_nil ?_
   refine wpIn_ret ?_
   repeat (first | refine q_ret ?_ | refine q_block_ret ?_)
   refine hS.done (res1 (fn := Tryz.f216) (r1 := .tmp 2) rfl (rv_tmp hS rfl)) ?_
   simp [tabOk_eq, hc2]
  ·
   try simp only [ty] at hc2
   refine st_v hS (hS.wanted rfl rfl rfl) rfl (run_fieldAddr fa25_2 hS rfl) fun a hS => st_v hS (hS.wanted rfl rfl rfl) rfl (run_load_one (i := 0) Tryz.isAgg23 hS rfl rfl rfl) fun a hS => st_v hS (hS.wanted rfl rfl rfl) rfl (run_len_slice Tryz.underlying23 hS rfl) fun a hS => st_v hS (hS.wanted rfl rfl rfl) rfl (run_fieldAddr fa25_0 hS rfl) fun a hS => st_v hS (hS.wanted rfl rfl rfl) rfl (run_load_one (i := 0) Tryz.isAgg22 hS rfl rfl rfl) fun a hS => st_v hS (hS.wanted rfl rfl rfl) rfl (run_len_slice Tryz.underlying22 hS rfl) fun a hS => st_v hS (hS.wanted rfl rfl rfl) rfl (run_bin hS rfl rfl rfl) fun a hS => st_v hS rfl rfl (run_pick_f hS rfl rfl) fun a hS => wl_nil ?_
   refine st_cond hS rfl (fun hc3 => ?_) (fun hc3 => ?_)
   ·
    try simp only [ty] at hc3
    refine wpIn_seq ?_
    refine wpIn_region_lit ?_
    refine st_v hS rfl rfl (run_assign hS rfl) fun a hS => wl_nil ?_
    refine wpIn_ret ?_
    repeat (first | refine q_ret ?_ | refine q_block_ret ?_)
    refine hS.done (res1 (fn := Tryz.f216) (r1 := .tmp 2) rfl (rv_tmp hS rfl)) ?_
    simp [tabOk_eq, show ¬ t.V.length = t.X.length by omega]
   ·
    try simp only [ty] at hc3
    refine wpIn_skip ?_
    refine wpIn_seq ?_
    refine wpIn_seq ?_
    refine wpIn_region_lit ?_
    refine st_v hS rfl rfl (run_assign hS rfl) fun a hS => wl_nil ?_
    refine wpIn_block ?_
    refine st_loop2 (α := Nat) (fun x => [(3, .int .i64 (((x : Nat) : Int)))]) [(0, _), (1, _)] (fun l _ => l) (fun x => x ≤ t.V.length ∧ ∀ j, j < x → rowGood t (rowOf t.V j) = true) (fun x => t.V.length - x) (0) hS (Sub.cons rfl (Sub.cons rfl (Sub.cons rfl Sub.nil))) rfl (⟨Nat.zero_le _, fun j hj => absurd hj (Nat.not_lt_zero j)⟩) (fun x W a hφ hS => ?_)
    dsimp only [setB, List.cons_append, List.nil_append, List.take] at hS
    obtain ⟨hx, hg⟩ := hφ
    refine wpIn_seq ?_
    refine wpIn_seq ?_
    refine wpIn_region_lit ?_
    refine st_v hS rfl rfl (run_move hS rfl) fun a hS => st_v hS rfl rfl (run_fieldAddr fa25_2 hS rfl) fun a hS => st_v hS rfl rfl (run_load_one (i := 0) Tryz.isAgg23 hS rfl rfl rfl) fun a hS => st_v hS rfl rfl (run_len_slice Tryz.underlying23 hS rfl) fun a hS => st_v hS rfl rfl (run_bin hS rfl rfl rfl) fun a hS => wl_nil ?_
    refine st_cond hS rfl (fun hc4 => ?_) (fun hc4 => ?_)
    ·
     try simp only [ty] at hc4
     refine wpIn_skip ?_
     refine wpIn_seq ?_
     refine wpIn_block ?_
     refine wpIn_seq ?_
     refine wpIn_seq ?_
     refine st_draw (by kernel_rfl) (by kernel_rfl) hS ?_
     refine qt_v hS rfl rfl (fun W hB hS => run_fieldAddr fa25_2 hS rfl) fun a hS => qt_v hS rfl rfl (fun W hB hS => run_load_one (i := 0) Tryz.isAgg23 hS rfl rfl rfl) fun a hS => qt_v hS rfl rfl (fun W hB hS => run_move hS rfl) fun a hS => ?_
     obtain ⟨ad0, s0, hA0, hL0, hR0⟩ := sl_rowB ((fun W hC => (Ht W hC).2.2) _ (Below.refl _ _)) (i := ((x : Nat) : Int)) (j := x) (by omega) (by omega)
     refine qt_v hS rfl rfl (fun W hB hS => run_indexAddr Tryz.underlying23 Tryz.sizeOf22 hS rfl rfl hA0 (by omega) (by omega)) fun a hS => qt_v hS rfl rfl (fun W hB hS => run_load_cell Tryz.isAgg22 hS rfl (hL0 _ hS.below)) fun a hS => qt_v hS rfl rfl (fun W hB hS => run_len_slice Tryz.underlying22 hS rfl) fun a hS => qt_v hS rfl rfl (fun W hB hS => run_fieldAddr fa25_1 hS rfl) fun a hS => qt_v hS rfl rfl (fun W hB hS => run_load_one (i := 0) Tryz.isAgg22 hS rfl rfl rfl) fun a hS => qt_v hS rfl rfl (fun W hB hS => run_len_slice Tryz.underlying22 hS rfl) fun a hS => qt_v hS rfl rfl (fun W hB hS => run_bin hS rfl rfl rfl) fun a hS => qt_nil hS fun W hS => ?_
     refine st_cond hS rfl (fun hc5 => ?_) (fun hc5 => ?_)
     ·
      try simp only [ty] at hc5
      refine wpIn_seq ?_
      refine wpIn_region_lit ?_
      refine st_v hS rfl rfl (run_assign hS rfl) fun a hS => wl_nil ?_
      refine wpIn_ret ?_
      repeat (first | refine q_ret ?_ | refine q_block_ret ?_)
      refine hS.done (res1 (fn := Tryz.f216) (r1 := .tmp 2) rfl (rv_tmp hS rfl)) ?_
      rw [tabOk_row (i := x) (by omega) (by simp [rowGood]; intro e; omega)]; rfl
     ·
      try simp only [ty] at hc5
      refine wpIn_skip ?_
      refine wpIn_seq ?_
      refine wpIn_region_lit ?_
      refine st_v hS rfl rfl (run_assign hS rfl) fun a hS => wl_nil ?_
      refine wpIn_block ?_
      refine st_loop2 (α := Nat) (fun y => [(4, .int .i64 (((y : Nat) : Int)))]) [(0, _), (1, _), (3, _)] (fun l _ => l) (fun y => y ≤ (rowOf t.V x).length ∧ ∀ j, j < y → within (ix (rowOf t.V x) j) (-1000000) 1000000 = true) (fun y => (rowOf t.V x).length - y) (0) hS (Sub.cons rfl (Sub.cons rfl (Sub.cons rfl (Sub.cons rfl Sub.nil)))) rfl (⟨Nat.zero_le _, fun j hj => absurd hj (Nat.not_lt_zero j)⟩) (fun y W a hφ hS => ?_)
      dsimp only [setB, List.cons_append, List.nil_append, List.take] at hS
      obtain ⟨hy, hgy⟩ := hφ
      have hmy := (hR0 _ (Below.refl _ _)).len
      refine wpIn_seq ?_
      refine wpIn_seq ?_
      refine wpIn_region_lit ?_
      refine st_v hS rfl rfl (run_move hS rfl) fun a hS => st_v hS rfl rfl (run_fieldAddr fa25_2 hS rfl) fun a hS => st_v hS rfl rfl (run_load_one (i := 0) Tryz.isAgg23 hS rfl rfl rfl) fun a hS => st_v hS rfl rfl (run_move hS rfl) fun a hS => ?_
      obtain ⟨ad1, s1, hA1, hL1, hR1⟩ := sl_rowB ((fun W hC => (Ht W hC).2.2) _ (Below.refl _ _)) (i := ((x : Nat) : Int)) (j := x) (by omega) (by omega)
      refine st_v hS rfl rfl (run_indexAddr Tryz.underlying23 Tryz.sizeOf22 hS rfl rfl hA1 (by omega) (by omega)) fun a hS => st_v hS rfl rfl (run_load_cell Tryz.isAgg22 hS rfl (hL1 _ hS.below)) fun a hS => st_v hS rfl rfl (run_len_slice Tryz.underlying22 hS rfl) fun a hS => st_v hS rfl rfl (run_bin hS rfl rfl rfl) fun a hS => wl_nil ?_
      refine st_cond hS rfl (fun hc6 => ?_) (fun hc6 => ?_)
      ·
       try simp only [ty] at hc6
       refine wpIn_skip ?_
       refine wpIn_seq ?_
       refine wpIn_block ?_
       refine wpIn_seq ?_
       refine wpIn_region_lit ?_
       refine st_v hS rfl rfl (run_fieldAddr fa25_2 hS rfl) fun a hS => st_v hS rfl rfl (run_load_one (i := 0) Tryz.isAgg23 hS rfl rfl rfl) fun a hS => st_v hS rfl rfl (run_move hS rfl) fun a hS => ?_
       obtain ⟨ad2, s2, hA2, hL2, hR2⟩ := sl_rowB ((fun W hC => (Ht W hC).2.2) _ (Below.refl _ _)) (i := ((x : Nat) : Int)) (j := x) (by omega) (by omega)
       refine st_v hS rfl rfl (run_indexAddr Tryz.underlying23 Tryz.sizeOf22 hS rfl rfl hA2 (by omega) (by omega)) fun a hS => st_v hS rfl rfl (run_load_cell Tryz.isAgg22 hS rfl (hL2 _ hS.below)) fun a hS => st_v hS rfl rfl (run_move hS rfl) fun a hS => ?_
       obtain ⟨ad3, hA3, hL3⟩ := sl_int hR2 (Below.refl _ _) (i := ((y : Nat) : Int)) (j := y) (by omega) (by omega)
       refine st_v hS rfl rfl (run_indexAddr Tryz.underlying22 Tryz.sizeOf3 hS rfl rfl hA3 (by omega) (by omega)) fun a hS => st_v hS rfl rfl (run_load_cell Tryz.isAgg3 hS rfl (hL3 _ hS.below)) fun a hS => st_call (ref01_From) Tryz.call222 hS rfl rfl rfl fun v W a hR hB hlt hS => ?_
       subst hR
       refine st_v hS rfl rfl (run_not hS rfl) fun a hS => wl_nil ?_
       refine st_cond hS rfl (fun hc7 => ?_) (fun hc7 => ?_)
       ·
        try simp only [ty] at hc7
        refine wpIn_seq ?_
        refine wpIn_region_lit ?_
        refine st_v hS rfl rfl (run_assign hS rfl) fun a hS => wl_nil ?_
        refine wpIn_ret ?_
        repeat (first | refine q_ret ?_ | refine q_block_ret ?_)
        refine hS.done (res1 (fn := Tryz.f216) (r1 := .tmp 2) rfl (rv_tmp hS rfl)) ?_
        rw [tabOk_row (i := x) (by omega) (by simp only [rowGood, Bool.and_eq_false_iff]; exact .inr (all_bad (i := y) (d := 0) (by omega) hc7))]; rfl
       ·
        try simp only [ty] at hc7
        refine wpIn_skip ?_
        refine wpIn_region_lit ?_
        refine st_v hS rfl rfl (run_move hS rfl) fun a hS => st_v hS rfl rfl (run_add (t := ((y + 1 : Nat) : Int)) hS rfl rfl (by omega) (by omega) (by omega)) fun a hS => st_v hS rfl rfl (run_assign hS rfl) fun a hS => wl_nil ?_
        refine ⟨y + 1, ⟨⟨by omega, fun j hj => ?_⟩, by omega⟩, (hS.sub (Sub.cons rfl (Sub.cons rfl (Sub.cons rfl (Sub.cons rfl Sub.nil)))))⟩
        by_cases e : j = y
        · subst e; simpa using hc7
        · exact hgy j (by omega)
      ·
       try simp only [ty] at hc6
       refine wpIn_exit ?_
       refine wpIn_region_lit ?_
       refine st_v hS rfl rfl (run_move hS rfl) fun a hS => st_v hS rfl rfl (run_add (t := ((x + 1 : Nat) : Int)) hS rfl rfl (by omega) (by omega) (by omega)) fun a hS => st_v hS rfl rfl (run_assign hS rfl) fun a hS => wl_nil ?_
       refine ⟨x + 1, ⟨⟨by omega, fun j hj => ?_⟩, by omega⟩, (hS.sub (Sub.cons rfl (Sub.cons rfl (Sub.cons rfl Sub.nil))))⟩
       by_cases e : j = x
       · subst e; simp only [rowGood, Bool.and_eq_true, decide_eq_true_eq]; exact ⟨by omega, all_good (d := 0) (fun k hk => hgy k (by omega))⟩
       · exact hg j (by omega)
    ·
     try simp only [ty] at hc4
     refine wpIn_exit ?_
     refine wpIn_seq ?_
     refine wpIn_region_lit ?_
     refine st_v hS rfl rfl (run_assign hS rfl) fun a hS => wl_nil ?_
     refine wpIn_ret ?_
     repeat (first | refine q_ret ?_ | refine q_block_ret ?_)
     refine hS.done (res1 (fn := Tryz.f216) (r1 := .tmp 2) rfl (rv_tmp hS rfl)) ?_
     rw [show tabOk t = true from by rw [tabOk_eq]; simp only [hc1, hc2, Bool.and_eq_true, decide_eq_true_eq, true_and]; exact ⟨by omega, all_good (d := []) (fun k hk => hg k (by omega))⟩]; rfl
end Go.Proofs.YtdnodlgebpnfoaaGreat
namespace Go.Proofs.YtdnodlgebpnfoaaGreat.Sw
theorem fl_abs {n d B : Int} (hd : 0 < d) (h : -B ≤ n ∧ n ≤ B) (hB : 0 ≤ B) : -B ≤ fl n d ∧ fl n d ≤ B := by
  unfold fl
  have h1 : n / d ≤ B := by
    rcases Int.lt_or_le n 0 with hn | hn
    · have := Int.ediv_lt_of_lt_mul hd (show n < 0 * d by omega)
      omega
    · have := Int.ediv_le_self (b := d) hn
      omega
  have h2 : -B ≤ n / d := by
    refine (Int.le_ediv_iff_mul_le hd).2 ?_
    have : B * 1 ≤ B * d := Int.mul_le_mul_of_nonneg_left (by omega) hB
    rw [Int.neg_mul]; omega
  exact ⟨h2, h1⟩
theorem fl_of_nonneg {n d : Int} (hn : 0 ≤ n) : Int.tdiv n d = fl n d := Int.tdiv_eq_ediv_of_nonneg hn
theorem fl_neg {n d : Int} (hn : n < 0) (hd : 0 < d) : -(Int.tdiv (-n + d - 1) d) = fl n d := by
  rw [Int.tdiv_eq_ediv_of_nonneg (by omega)]
  unfold fl
  have h1 := Int.mul_ediv_add_emod n d
  have h2 := Int.emod_nonneg n (Int.ne_of_gt hd)
  have h3 := Int.emod_lt_of_pos n hd
  -- -n + d - 1 = d * (-(n/d)) + (d - 1 - n%d)
  have h4 : (-n + d - 1) / d = -(n / d) := by
    have e : -n + d - 1 = (d - 1 - n % d) + d * (-(n / d)) := by rw [Int.mul_neg]; omega
    rw [e, Int.add_mul_ediv_left _ _ (Int.ne_of_gt hd), Int.ediv_eq_zero_of_lt (by omega) (by omega)]
    omega
  rw [h4]; omega
theorem fl_rem {n d : Int} (hd : 0 < d) : (if Int.tmod n d < 0 then Int.tdiv n d - 1 else Int.tdiv n d) = fl n d := by
  unfold fl
  have h1 := Int.mul_ediv_add_emod n d
  have h2 := Int.emod_nonneg n (Int.ne_of_gt hd)
  have h3 := Int.emod_lt_of_pos n hd
  have h4 := Int.mul_tdiv_add_tmod n d
  rcases Int.lt_or_le n 0 with hn | hn
  · have h5 : Int.tmod n d = -(Int.tmod (-n) d) := by rw [Int.neg_tmod, Int.neg_neg]
    have h6 : Int.tmod (-n) d = (-n) % d := Int.tmod_eq_emod_of_nonneg (by omega)
    have h7 := Int.emod_nonneg (-n) (Int.ne_of_gt hd)
    have h8 := Int.emod_lt_of_pos (-n) hd
    split
    · rename_i hc
      have e : n = (d + Int.tmod n d) + d * (Int.tdiv n d - 1) := by rw [Int.mul_sub, Int.mul_one]; omega
      have : n / d = Int.tdiv n d - 1 := by
        rw [show n / d = ((d + Int.tmod n d) + d * (Int.tdiv n d - 1)) / d from congrArg (· / d) e, Int.add_mul_ediv_left _ _ (Int.ne_of_gt hd), Int.ediv_eq_zero_of_lt (by omega) (by omega)]
        omega
      omega
    · rename_i hc
      have h0 : Int.tmod n d = 0 := by omega
      have e : n = 0 + d * Int.tdiv n d := by omega
      have : n / d = Int.tdiv n d := by
        rw [show n / d = (0 + d * Int.tdiv n d) / d from congrArg (· / d) e, Int.add_mul_ediv_left _ _ (Int.ne_of_gt hd)]
        simp
      omega
  · have h5 : Int.tmod n d = n % d := Int.tmod_eq_emod_of_nonneg hn
    rw [if_neg (by omega), Int.tdiv_eq_ediv_of_nonneg hn]
theorem m2 {a b : Int} (ha : 0 ≤ a ∧ a ≤ 10000) (hb : 0 ≤ b ∧ b ≤ 10000) : 0 ≤ a * b ∧ a * b ≤ 100000000 := by
  refine ⟨Int.mul_nonneg ha.1 hb.1, ?_⟩
  have := Int.mul_le_mul ha.2 hb.2 hb.1 (by omega)
  omega
theorem m3 {p v : Int} (hp : 0 ≤ p ∧ p ≤ 100000000) (hv : -1000000 ≤ v ∧ v ≤ 1000000) : -100000000000000 ≤ p * v ∧ p * v ≤ 100000000000000 := by
  have h1 := Int.mul_le_mul_of_nonneg_left hv.1 hp.1
  have h2 := Int.mul_le_mul_of_nonneg_left hv.2 hp.1
  omega
theorem mb {a b A B : Int} (ha : -A ≤ a ∧ a ≤ A) (hb : -B ≤ b ∧ b ≤ B) : -(A * B) ≤ a * b ∧ a * b ≤ A * B := by
  have hA : 0 ≤ A := by omega
  have hB : 0 ≤ B := by omega
  rcases Int.le_total 0 a with h | h
  · have h1 := Int.mul_le_mul_of_nonneg_left hb.1 h
    have h2 := Int.mul_le_mul_of_nonneg_left hb.2 h
    have h3 := Int.mul_le_mul_of_nonneg_right ha.2 hB
    rw [Int.mul_neg] at h1
    omega
  · have h1 := Int.mul_le_mul_of_nonpos_left h hb.1
    have h2 := Int.mul_le_mul_of_nonpos_left h hb.2
    have h3 := Int.mul_le_mul_of_nonneg_right ha.1 hB
    rw [Int.mul_neg] at h1
    rw [Int.neg_mul] at h3
    omega
def cellGo (l : List Int) (x : Int) : Nat → Nat → Nat
  | 0, i => i
  | n + 1, i => if i + 2 < l.length ∧ ix l (i + 1) ≤ x then cellGo l x n (i + 1) else i
def cellOf (l : List Int) (x : Int) : Nat := cellGo l x l.length 0
theorem cellGo_on {l : List Int} {x : Int} {i : Nat} (h : i + 2 < l.length) (h1 : ix l (i + 1) ≤ x) : cellGo l x (l.length - i) i = cellGo l x (l.length - (i + 1)) (i + 1) := by
  rw [show l.length - i = (l.length - (i + 1)) + 1 by omega]
  simp only [cellGo]
  rw [if_pos ⟨h, h1⟩]
theorem cellGo_off {l : List Int} {x : Int} {i : Nat} (h : ¬ (i + 2 < l.length ∧ ix l (i + 1) ≤ x)) : cellGo l x (l.length - i) i = i := by
  cases hn : l.length - i with
  | zero => rfl
  | succ n => simp only [cellGo]; rw [if_neg h]
theorem cellGo_in {l : List Int} {x : Int} (h1 : x ≤ lastOf l) : ∀ (n i : Nat), n = l.length - i → i + 1 < l.length → ix l i ≤ x → InCell l (cellGo l x n i) x
  | 0, i, hn, hi, _ => by omega
  | n + 1, i, hn, hi, hx => by
    simp only [cellGo]
    by_cases hc : i + 2 < l.length ∧ ix l (i + 1) ≤ x
    · rw [if_pos hc]
      exact cellGo_in h1 n (i + 1) (by omega) (by omega) hc.2
    · rw [if_neg hc]
      refine ⟨hi, hx, ?_⟩
      by_cases h2 : i + 2 < l.length
      · have := fun h => hc ⟨h2, h⟩
        omega
      · unfold lastOf at h1
        rwa [show i + 1 = l.length - 1 by omega]
theorem cellOf_in {l : List Int} {x : Int} (h : 2 ≤ l.length) (h0 : ix l 0 ≤ x) (h1 : x ≤ lastOf l) : InCell l (cellOf l x) x := cellGo_in h1 l.length 0 (by omega) (by omega) h0
structure Part4 (t : Tab) (i k : Nat) (x y : Int) : Prop where
  i1 : i + 1 < t.X.length
  k1 : k + 1 < t.Y.length
  a : 0 ≤ ix t.X (i + 1) - x ∧ ix t.X (i + 1) - x ≤ 10000
  b : 0 ≤ x - ix t.X i ∧ x - ix t.X i ≤ 10000
  c : 0 ≤ ix t.Y (k + 1) - y ∧ ix t.Y (k + 1) - y ≤ 10000
  d : 0 ≤ y - ix t.Y k ∧ y - ix t.Y k ≤ 10000
  v : ∀ i' k', i' < t.X.length → k' < t.Y.length → -1000000 ≤ ix (rowOf t.V i') k' ∧ ix (rowOf t.V i') k' ≤ 1000000
  rows : t.V.length = t.X.length
  cols : ∀ i', i' < t.X.length → (rowOf t.V i').length = t.Y.length
  wx : 1 ≤ ix t.X (i + 1) - ix t.X i ∧ ix t.X (i + 1) - ix t.X i ≤ 10000
  wy : 1 ≤ ix t.Y (k + 1) - ix t.Y k ∧ ix t.Y (k + 1) - ix t.Y k ≤ 10000
theorem part4 {t : Tab} (h : tabOk t = true) {i k : Nat} {x y : Int} (hi : InCell t.X i x) (hk : InCell t.Y k y) : Part4 t i k x y := by
  obtain ⟨hX, hY, hV, hR⟩ := tab_axes h
  have h1 := hX.step i hi.1
  have h2 := hY.step k hk.1
  obtain ⟨e1, e2, e3⟩ := hi
  obtain ⟨f1, f2, f3⟩ := hk
  refine ⟨e1, f1, by omega, by omega, by omega, by omega, fun i' k' hi' hk' => tab_within h i' k' hi' hk', hV, fun i' hi' => ?_, h1, h2⟩
  have : rowOf t.V i' = t.V[i']'(by omega) := by simp [rowOf, List.getD_eq_getElem?_getD, show i' < t.V.length by omega]
  rw [this]; exact (hR _ (List.getElem_mem _)).1
theorem num_abs {t : Tab} {i k : Nat} {x y : Int} (h : Part4 t i k x y) : -400000000000000 ≤ num t i k x y ∧ num t i k x y ≤ 400000000000000 := by
  unfold num vat
  have h1 := m3 (m2 h.a h.c) (h.v i k (by have := h.i1; omega) (by have := h.k1; omega))
  have h2 := m3 (m2 h.b h.c) (h.v (i + 1) k h.i1 (by have := h.k1; omega))
  have h3 := m3 (m2 h.a h.d) (h.v i (k + 1) (by have := h.i1; omega) h.k1)
  have h4 := m3 (m2 h.b h.d) (h.v (i + 1) (k + 1) h.i1 h.k1)
  omega
theorem den_abs {t : Tab} {i k : Nat} {x y : Int} (h : Part4 t i k x y) : 1 ≤ den t i k ∧ den t i k ≤ 100000000 := by
  unfold den
  have h1 := m2 ⟨by have := h.wx; omega, h.wx.2⟩ ⟨by have := h.wy; omega, h.wy.2⟩
  have h2 : 0 < (ix t.X (i + 1) - ix t.X i) * (ix t.Y (k + 1) - ix t.Y k) := Int.mul_pos (by have := h.wx; omega) (by have := h.wy; omega)
  omega
theorem cell_bd {t : Tab} (h : tabOk t = true) {x y : Int} (hx : ix t.X 0 ≤ x ∧ x ≤ lastOf t.X) (hy : ix t.Y 0 ≤ y ∧ y ≤ lastOf t.Y) :
    (1 ≤ den t (cellOf t.X x) (cellOf t.Y y) ∧ den t (cellOf t.X x) (cellOf t.Y y) ≤ 100000000) ∧ (-400000000000000 ≤ num t (cellOf t.X x) (cellOf t.Y y) x y ∧ num t (cellOf t.X x) (cellOf t.Y y) x y ≤ 400000000000000) := by
  obtain ⟨hX, hY, _, _⟩ := tab_axes h
  have hp := part4 h (cellOf_in hX.two hx.1 hx.2) (cellOf_in hY.two hy.1 hy.2)
  exact ⟨den_abs hp, num_abs hp⟩
theorem cell_low {t : Tab} (h : tabOk t = true) {x y : Int} (hx : ix t.X 0 ≤ x ∧ x ≤ lastOf t.X) (hy : ix t.Y 0 ≤ y ∧ y ≤ lastOf t.Y) :
    fl (num t (cellOf t.X x) (cellOf t.Y y) x y) (den t (cellOf t.X x) (cellOf t.Y y)) = lowAt t x y ∧ ce (num t (cellOf t.X x) (cellOf t.Y y) x y) (den t (cellOf t.X x) (cellOf t.Y y)) = highAt t x y := by
  obtain ⟨hX, hY, _, _⟩ := tab_axes h
  obtain ⟨h1, h2⟩ := lowAt_cell hX hY (cellOf_in hX.two hx.1 hx.2) (cellOf_in hY.two hy.1 hy.2)
  exact ⟨h1.symm, h2.symm⟩
theorem stops_pos (l : List Int) (lo hi : Int) : 1 ≤ (stops l lo hi).length := by simp [stops]
theorem stops_len {l : List Int} (h : l.length ≤ 12) (lo hi : Int) : (stops l lo hi).length ≤ 14 := by
  unfold stops
  have h1 := List.length_filter_le (fun x => decide (lo < x) && decide (x < hi)) l
  simp only [List.length_cons, List.length_append]
  split <;> simp <;> omega
theorem stops_on {l : List Int} {lo hi : Int} (h : lo ≤ hi) (h0 : ix l 0 ≤ lo) (h1 : hi ≤ lastOf l) {i : Nat} (hi' : i < (stops l lo hi).length) : ix l 0 ≤ ix (stops l lo hi) i ∧ ix (stops l lo hi) i ≤ lastOf l := by
  have hm : ix (stops l lo hi) i ∈ stops l lo hi := mem_ix.2 ⟨i, hi', rfl⟩
  have := (mem_stops h).1 hm
  omega
structure Least (t : Tab) (p q : Span) (f : Int → Int → Int) (le : Int → Int → Prop) (i j : Nat) (m : Int) : Prop where
  mem : m ∈ (corners t p.lo p.hi q.lo q.hi).map fun c => f c.1 c.2
  rows : ∀ i' j', i' < i → j' < (stops t.Y q.lo q.hi).length → le m (f (ix (stops t.X p.lo p.hi) i') (ix (stops t.Y q.lo q.hi) j'))
  row : ∀ j', j' < j → le m (f (ix (stops t.X p.lo p.hi) i) (ix (stops t.Y q.lo q.hi) j'))
theorem Least.at_ {t : Tab} {p q : Span} {f : Int → Int → Int} {i j : Nat} (hi : i < (stops t.X p.lo p.hi).length) (hj : j < (stops t.Y q.lo q.hi).length) : f (ix (stops t.X p.lo p.hi) i) (ix (stops t.Y q.lo q.hi) j) ∈ (corners t p.lo p.hi q.lo q.hi).map fun c => f c.1 c.2 :=
  List.mem_map.2 ⟨(_, _), mem_corners.2 ⟨mem_ix.2 ⟨i, hi, rfl⟩, mem_ix.2 ⟨j, hj, rfl⟩⟩, rfl⟩
theorem Least.row0 {t : Tab} {p q : Span} {f : Int → Int → Int} {le : Int → Int → Prop} {i j : Nat} {m : Int} (h : Least t p q f le i j m) (hj : (stops t.Y q.lo q.hi).length ≤ j) : Least t p q f le (i + 1) 0 m := by
  refine ⟨h.mem, fun i' j' hi' hj' => ?_, fun j' hj' => absurd hj' (Nat.not_lt_zero j')⟩
  by_cases e : i' = i
  · subst e; exact h.row j' (by omega)
  · exact h.rows i' j' (by omega) hj'
theorem Least.open_ {t : Tab} {p q : Span} {f : Int → Int → Int} {le : Int → Int → Prop} {i : Nat} {m : Int} (h : Least t p q f le i 0 m) : Least t p q f le i 0 m := h
theorem Least.next {t : Tab} {p q : Span} {f : Int → Int → Int} {le : Int → Int → Prop} {i j : Nat} {m m' : Int} (h : Least t p q f le i j m) (hm : m' ∈ (corners t p.lo p.hi q.lo q.hi).map fun c => f c.1 c.2) (h1 : ∀ x, le m x → le m' x)
    (h2 : le m' (f (ix (stops t.X p.lo p.hi) i) (ix (stops t.Y q.lo q.hi) j))) : Least t p q f le i (j + 1) m' := by
  refine ⟨hm, fun i' j' hi' hj' => h1 _ (h.rows i' j' hi' hj'), fun j' hj' => ?_⟩
  by_cases e : j' = j
  · subst e; exact h2
  · exact h1 _ (h.row j' (by omega))
theorem Least.first {t : Tab} {p q : Span} {f : Int → Int → Int} {le : Int → Int → Prop} : Least t p q f le 0 0 (f (ix (stops t.X p.lo p.hi) 0) (ix (stops t.Y q.lo q.hi) 0)) :=
  ⟨Least.at_ (stops_pos _ _ _) (stops_pos _ _ _), fun i' _ hi' => absurd hi' (Nat.not_lt_zero i'), fun j' hj' => absurd hj' (Nat.not_lt_zero j')⟩
theorem Least.low {t : Tab} {p q : Span} {i j : Nat} {m : Int} (h : Least t p q (lowAt t) (· ≤ ·) i j m) (hi : (stops t.X p.lo p.hi).length ≤ i) : boundLow t p.lo p.hi q.lo q.hi = m := by
  refine minL_eq h.mem fun b hb => ?_
  obtain ⟨c, hc, rfl⟩ := List.mem_map.1 hb
  obtain ⟨h1, h2⟩ := mem_corners.1 hc
  obtain ⟨i', hi', e1⟩ := mem_ix.1 h1
  obtain ⟨j', hj', e2⟩ := mem_ix.1 h2
  rw [← e1, ← e2]
  exact h.rows i' j' (by omega) hj'
theorem Least.high {t : Tab} {p q : Span} {i j : Nat} {m : Int} (h : Least t p q (highAt t) (· ≥ ·) i j m) (hi : (stops t.X p.lo p.hi).length ≤ i) : boundHigh t p.lo p.hi q.lo q.hi = m := by
  refine maxL_eq h.mem fun b hb => ?_
  obtain ⟨c, hc, rfl⟩ := List.mem_map.1 hb
  obtain ⟨h1, h2⟩ := mem_corners.1 hc
  obtain ⟨i', hi', e1⟩ := mem_ix.1 h1
  obtain ⟨j', hj', e2⟩ := mem_ix.1 h2
  rw [← e1, ← e2]
  exact h.rows i' j' (by omega) hj'
theorem tdiv_abs {n d B : Int} (hd : 0 < d) (h : -B ≤ n ∧ n ≤ B) : -B ≤ Int.tdiv n d ∧ Int.tdiv n d ≤ B := by
  rcases Int.le_total 0 n with hn | hn
  · rw [Int.tdiv_eq_ediv_of_nonneg hn]
    have := Int.ediv_le_self (b := d) hn
    have := Int.ediv_nonneg hn (Int.le_of_lt hd)
    omega
  · have e : Int.tdiv n d = -(Int.tdiv (-n) d) := by rw [Int.neg_tdiv, Int.neg_neg]
    rw [e, Int.tdiv_eq_ediv_of_nonneg (by omega)]
    have := Int.ediv_le_self (a := -n) (b := d) (by omega)
    have := Int.ediv_nonneg (a := -n) (by omega) (Int.le_of_lt hd)
    omega
def Asc (l : List Int) : Prop := ∀ i j, i < j → j < l.length → ix l i < ix l j
def lowB (l : List Int) (x : Int) : Nat := (l.filter fun k => decide (k < x)).length
theorem lowB_of {l : List Int} (h : Asc l) {x : Int} {i : Nat} (hi : i ≤ l.length) (h1 : i = 0 ∨ ix l (i - 1) < x) (h2 : i = l.length ∨ ¬ ix l i < x) : lowB l x = i := by
  have e : ∀ j (hj : j < l.length), l[j] = ix l j := fun j hj => by simp [ix, List.getD_eq_getElem?_getD, hj]
  unfold lowB
  apply filter_prefix
  · exact hi
  · intro j hj hji
    rw [e]
    simp only [decide_eq_true_eq]
    rcases h1 with h1 | h1
    · omega
    · rcases Nat.lt_or_eq_of_le (show j ≤ i - 1 by omega) with hc | hc
      · have := h j (i - 1) hc (by omega); omega
      · rw [hc]; exact h1
  · intro j hj hji
    rw [e]
    simp only [decide_eq_false_iff_not]
    rcases h2 with h2 | h2
    · omega
    · rcases Nat.lt_or_eq_of_le hji with hc | hc
      · have := h i j hc hj; omega
      · rw [← hc]; exact h2
theorem inner_eq (l : List Int) : (l.drop 1).take (l.length - 1 - 1) = l.tail.dropLast := by
  rw [List.dropLast_eq_take, List.length_tail, List.drop_one]
theorem cellAt_lowB (l : List Int) (x : Int) : lowB ((l.drop 1).take (l.length - 1 - 1)) x = cellAt l x := by
  rw [inner_eq]; rfl
theorem inner_asc {l : List Int} (h : Axis l) : Asc ((l.drop 1).take (l.length - 1 - 1)) := by
  intro i j hij hj
  have hl : ((l.drop 1).take (l.length - 1 - 1)).length = l.length - 2 := by simp; omega
  rw [hl] at hj
  have e : ∀ k, k < l.length - 2 → ix ((l.drop 1).take (l.length - 1 - 1)) k = ix l (k + 1) := fun k hk => by
    simp [ix, List.getD_eq_getElem?_getD, show k < l.length - 1 - 1 by omega, show k + 1 < l.length by omega]
  rw [e i (by omega), e j hj]
  exact h.lt (by omega) (by omega)
def idxOf {α : Type} (p : α → Bool) (xs : List α) : Int := if xs.any p then (xs.findIdx p : Int) else -1
theorem idxOf_ge {α : Type} (p : α → Bool) (xs : List α) : decide (idxOf p xs ≥ 0) = xs.any p := by
  unfold idxOf
  cases h : xs.any p <;> simp
theorem idxOf_none {α : Type} {p : α → Bool} {xs : List α} {d : α} (h : ∀ j, j < xs.length → p (xs.getD j d) = false) : idxOf p xs = -1 := by
  unfold idxOf
  rw [any_bad h]; rfl
theorem idxOf_some {α : Type} {p : α → Bool} {xs : List α} {d : α} {i : Nat} (hi : i < xs.length) (h : ∀ j, j < i → p (xs.getD j d) = false) (hp : p (xs.getD i d) = true) : idxOf p xs = (i : Int) := by
  unfold idxOf
  rw [any_good hi hp, if_pos rfl]
  have e : ∀ j (hj : j < xs.length), xs[j] = xs.getD j d := fun j hj => by simp [List.getD_eq_getElem?_getD, hj]
  have : xs.findIdx p = i := by
    rw [List.findIdx_eq hi]
    exact ⟨by rw [e]; exact hp, fun j hj => by rw [e]; rw [h j hj]⟩
  rw [this]
def orOf (xs : List Int) : Int := (xs.find? fun x => x != 0).getD 0
theorem orOf_two (a b : Int) : orOf [a, b] = if a = 0 then b else a := by
  unfold orOf
  by_cases h : a = 0
  · subst h
    by_cases hb : b = 0
    · subst hb; rfl
    · simp [hb]
  · simp [h]
theorem fl_rest {n d : Int} (hd : 0 < d) : 0 ≤ n - fl n d * d ∧ n - fl n d * d < d := by
  unfold fl
  have h1 := Int.mul_ediv_add_emod n d
  have h2 := Int.emod_nonneg n (Int.ne_of_gt hd)
  have h3 := Int.emod_lt_of_pos n hd
  rw [Int.mul_comm] at h1
  omega
def cmpV (p q : Span) : Int := orOf [fl p.lo p.hi - fl q.lo q.hi, (p.lo - fl p.lo p.hi * p.hi) * q.hi - (q.lo - fl q.lo q.hi * q.hi) * p.hi]
theorem cmpV_spec {p q : Span} (hp : 0 < p.hi) (hq : 0 < q.hi) : (cmpV p q < 0 ↔ p.lo * q.hi < q.lo * p.hi) ∧ (cmpV p q > 0 ↔ p.lo * q.hi > q.lo * p.hi) := by
  unfold cmpV
  rw [orOf_two]
  have h1 := fl_rest (n := p.lo) hp
  have h2 := fl_rest (n := q.lo) hq
  generalize fl p.lo p.hi = a at *
  generalize fl q.lo q.hi = b at *
  generalize hr : p.lo - a * p.hi = r at *
  generalize hs : q.lo - b * q.hi = s at *
  have e1 : p.lo * q.hi = a * (p.hi * q.hi) + r * q.hi := by rw [show p.lo = a * p.hi + r by omega]; grind
  have e2 : q.lo * p.hi = b * (p.hi * q.hi) + s * p.hi := by rw [show q.lo = b * q.hi + s by omega]; grind
  have hpq : 0 < p.hi * q.hi := Int.mul_pos hp hq
  have b1 : r * q.hi < p.hi * q.hi := Int.mul_lt_mul_of_pos_right h1.2 hq
  have b2 : s * p.hi < p.hi * q.hi := by rw [Int.mul_comm p.hi]; exact Int.mul_lt_mul_of_pos_right h2.2 hp
  have b3 : 0 ≤ r * q.hi := Int.mul_nonneg h1.1 (by omega)
  have b4 : 0 ≤ s * p.hi := Int.mul_nonneg h2.1 (by omega)
  generalize p.hi * q.hi = D at *
  generalize r * q.hi = R at *
  generalize s * p.hi = S at *
  rw [e1, e2]
  rcases Int.lt_trichotomy a b with h | h | h
  · have : a * D + D ≤ b * D := by
      have := Int.mul_le_mul_of_nonneg_right (show a + 1 ≤ b by omega) (show 0 ≤ D by omega)
      rw [Int.add_mul, Int.one_mul] at this; exact this
    rw [if_neg (by omega)]; omega
  · subst h
    rw [if_pos (by omega)]; omega
  · have : b * D + D ≤ a * D := by
      have := Int.mul_le_mul_of_nonneg_right (show b + 1 ≤ a by omega) (show 0 ≤ D by omega)
      rw [Int.add_mul, Int.one_mul] at this; exact this
    rw [if_neg (by omega)]; omega
theorem mul_rest {a b A B : Int} (ha : 0 ≤ a ∧ a ≤ A) (hb : 0 ≤ b ∧ b ≤ B) : 0 ≤ a * b ∧ a * b ≤ A * B :=
  ⟨Int.mul_nonneg ha.1 hb.1, Int.mul_le_mul ha.2 hb.2 hb.1 (Int.le_trans ha.1 ha.2)⟩
end Go.Proofs.YtdnodlgebpnfoaaGreat.Sw
namespace Go.Proofs.YtdnodlgebpnfoaaGreat
open Go Go.RowKit Go.Shelf Sw
set_option maxHeartbeats 2000000 in
set_option maxRecDepth 100000 in
theorem ref01_floor  {n : Int} {d : Int} {w : World}  (hd : 0 < d) (hn : -2305843009213693952 ≤ n ∧ n ≤ 2305843009213693952) (hd2 : d ≤ 2305843009213693952) : Ret Tryz.prog 238 [.int .i64 n, .int .i64 d] w (fun v _ => v = .int .i64 (fl n d)) := by
 refine ret_start (n := 18) Tryz.func238 rfl rfl rfl (fun a hS => ?_)
 refine wpIn_seq ?_
 refine wpIn_region_lit ?_
 refine st_v hS rfl rfl (run_assign hS rfl) fun a hS => wl_nil ?_
 refine wpIn_seq ?_
 refine wpIn_seq ?_
 refine wpIn_region_lit ?_
 refine st_v hS rfl rfl (run_move hS rfl) fun a hS => st_v hS rfl rfl (run_bin hS rfl rfl rfl) fun a hS => wl_nil ?_
 refine st_cond hS rfl (fun hc1 => ?_) (fun hc1 => ?_)
 ·
  try simp only [ty] at hc1
  refine wpIn_seq ?_
  refine wpIn_region_lit ?_
  refine st_v hS rfl rfl (run_move hS rfl) fun a hS => st_v hS rfl rfl (run_move hS rfl) fun a hS => st_v hS rfl rfl (run_div (t := (fl n d)) hS rfl rfl (by omega) (by exact fl_of_nonneg (by omega)) (by have := fl_abs hd hn (by omega); omega)) fun a hS => st_v hS rfl rfl (run_assign hS rfl) fun a hS => wl_nil ?_
  refine wpIn_ret ?_
  repeat (first | refine q_ret ?_ | refine q_block_ret ?_)
  refine hS.done (res1 (fn := Tryz.f238) (r1 := .tmp 4) rfl (rv_tmp hS rfl)) ?_
  rfl
 ·
  try simp only [ty] at hc1
  refine wpIn_skip ?_
  refine wpIn_seq ?_
  refine wpIn_region_lit ?_
  refine st_v hS rfl rfl (run_move hS rfl) fun a hS => st_v hS rfl rfl (run_negI (t := -(n)) hS rfl (by omega) (by omega) (by omega)) fun a hS => st_v hS rfl rfl (run_move hS rfl) fun a hS => st_v hS rfl rfl (run_add (t := (-(n)) + d) hS rfl rfl (rfl) (by omega) (by omega)) fun a hS => st_v hS rfl rfl (run_sub (t := ((-(n)) + d) - 1) hS rfl rfl (rfl) (by omega) (by omega)) fun a hS => st_v hS rfl rfl (run_move hS rfl) fun a hS => st_v hS rfl rfl (run_div (t := (-(fl n d))) hS rfl rfl (by omega) (by rw [← fl_neg (n := n) (d := d) (by omega) hd, Int.neg_neg]) (by have := fl_abs hd hn (by omega); omega)) fun a hS => st_v hS rfl rfl (run_negI (t := (fl n d)) hS rfl (by have := fl_abs hd hn (by omega); omega) (by have := fl_abs hd hn (by omega); omega) (by have := fl_abs hd hn (by omega); omega)) fun a hS => st_v hS rfl rfl (run_assign hS rfl) fun a hS => wl_nil ?_
  refine wpIn_ret ?_
  repeat (first | refine q_ret ?_ | refine q_block_ret ?_)
  refine hS.done (res1 (fn := Tryz.f238) (r1 := .tmp 4) rfl (rv_tmp hS rfl)) ?_
  rfl
set_option maxHeartbeats 2000000 in
set_option maxRecDepth 100000 in
theorem ref01_ceil  {n : Int} {d : Int} {w : World}  (hd : 0 < d) (hn : -2305843009213693952 ≤ n ∧ n ≤ 2305843009213693952) (hd2 : d ≤ 2305843009213693952) : Ret Tryz.prog 239 [.int .i64 n, .int .i64 d] w (fun v _ => v = .int .i64 (ce n d)) := by
 refine ret_start (n := 10) Tryz.func239 rfl rfl rfl (fun a hS => ?_)
 have hq := fl_abs (n := -n) hd (B := 2305843009213693952) (by omega) (by omega)
 refine wpIn_seq ?_
 refine wpIn_region_lit ?_
 refine st_v hS rfl rfl (run_assign hS rfl) fun a hS => wl_nil ?_
 refine wpIn_seq ?_
 refine wpIn_region_lit ?_
 refine st_v hS rfl rfl (run_move hS rfl) fun a hS => st_v hS rfl rfl (run_negI (t := (-n)) hS rfl (by omega) (by omega) (by omega)) fun a hS => st_v hS rfl rfl (run_move hS rfl) fun a hS => st_call (ref01_floor (by omega) (by omega) (by omega)) Tryz.call238 hS rfl rfl rfl fun v W a hR hB hlt hS => ?_
 subst hR
 refine st_v hS rfl rfl (run_negI (t := (ce n d)) hS rfl (by unfold ce fl at *; omega) (by unfold ce fl at *; omega) (by unfold ce fl at *; omega)) fun a hS => st_v hS rfl rfl (run_assign hS rfl) fun a hS => wl_nil ?_
 refine wpIn_ret ?_
 repeat (first | refine q_ret ?_ | refine q_block_ret ?_)
 refine hS.done (res1 (fn := Tryz.f239) (r1 := .tmp 4) rfl (rv_tmp hS rfl)) ?_
 rfl
set_option maxHeartbeats 2000000 in
set_option maxRecDepth 100000 in
theorem ref01_part  (sl : SV) (l : List Int) {x : Int} {w : World} {Fl : Nat → Prop} (hl : Sl kInt Fl w sl l)  : Ret Tryz.prog 251 [.slice sl.a l.length sl.c, .int .i64 x] w (fun v _ => v = .int .i64 ((cellOf l x : Nat) : Int)) := by
 refine ret_start (n := 23) Tryz.func251 rfl rfl rfl (fun a hS => ?_)
 have Hl : ∀ W, Below w.heap.size w W → Sl kInt Fl W sl l := fun W hb => hl.at_ hb
 have hml := hl.len
 refine wpIn_seq ?_
 refine wpIn_region_lit ?_
 refine st_v hS rfl rfl (run_assign hS rfl) fun a hS => wl_nil ?_
 refine wpIn_seq ?_
 refine wpIn_region_lit ?_
 refine st_v hS rfl rfl (run_assign hS rfl) fun a hS => wl_nil ?_
 refine wpIn_seq ?_
 refine wpIn_block ?_
 refine st_loop2 (α := Nat) (fun i => [(5, .int .i64 (((i : Nat) : Int)))]) [(0, _), (1, _), (4, _)] (fun l _ => l) (fun i => cellGo l x (l.length - i) i = cellOf l x ∧ i ≤ l.length) (fun i => l.length - i) (0) hS (Sub.cons rfl (Sub.cons rfl (Sub.cons rfl (Sub.cons rfl Sub.nil)))) rfl (⟨rfl, Nat.zero_le _⟩) (fun i W a hφ hS => ?_)
 dsimp only [setB, List.cons_append, List.nil_append, List.take] at hS
 obtain ⟨hp, hi⟩ := hφ
 refine wpIn_seq ?_
 refine wpIn_seq ?_
 refine wpIn_region_lit ?_
 refine st_v hS rfl rfl (run_move hS rfl) fun a hS => st_v hS rfl rfl (run_add (t := ((i + 2 : Nat) : Int)) hS rfl rfl (by omega) (by omega) (by omega)) fun a hS => st_v hS rfl rfl (run_move hS rfl) fun a hS => st_v hS rfl rfl (run_len_slice Tryz.underlying22 hS rfl) fun a hS => st_v hS rfl rfl (run_bin hS rfl rfl rfl) fun a hS => st_v hS rfl rfl (run_move hS rfl) fun a hS => ?_
 refine st_split (d := 11) hS rfl (fun hc1 hS => ?_) (fun hc1 hS => ?_)
 ·
  try simp only [ty] at hc1
  refine st_v hS (hS.wanted rfl rfl rfl) rfl (run_move hS rfl) fun a hS => st_v hS (hS.wanted rfl rfl rfl) rfl (run_move hS rfl) fun a hS => st_v hS (hS.wanted rfl rfl rfl) rfl (run_add (t := ((i + 1 : Nat) : Int)) hS rfl rfl (by omega) (by omega) (by omega)) fun a hS => ?_
  obtain ⟨ad0, hA0, hL0⟩ := sl_int Hl (Below.refl _ _) (i := ((i + 1 : Nat) : Int)) (j := i + 1) (by omega) (by omega)
  refine st_v hS (hS.wanted rfl rfl rfl) rfl (run_indexAddr Tryz.underlying22 Tryz.sizeOf3 hS rfl rfl hA0 (by omega) (by omega)) fun a hS => st_v hS (hS.wanted rfl rfl rfl) rfl (run_load_cell Tryz.isAgg3 hS rfl (hL0 _ hS.below)) fun a hS => st_v hS (hS.wanted rfl rfl rfl) rfl (run_move hS rfl) fun a hS => st_v hS (hS.wanted rfl rfl rfl) rfl (run_bin hS rfl rfl rfl) fun a hS => st_v hS rfl rfl (run_pick_t hS rfl rfl) fun a hS => wl_nil ?_
  refine st_cond hS rfl (fun hc2 => ?_) (fun hc2 => ?_)
  ·
   try simp only [ty] at hc2
   refine wpIn_skip ?_
   refine wpIn_block ?_
   refine wpIn_region_lit ?_
   refine st_v hS rfl rfl (run_move hS rfl) fun a hS => st_v hS rfl rfl (run_add (t := ((i + 1 : Nat) : Int)) hS rfl rfl (by omega) (by omega) (by omega)) fun a hS => st_v hS rfl rfl (run_assign hS rfl) fun a hS => wl_nil ?_
   refine ⟨i + 1, ⟨⟨by rw [← cellGo_on (l := l) (x := x) (i := i) (by omega) (by omega)]; exact hp, by omega⟩, by omega⟩, (hS.sub (Sub.cons rfl (Sub.cons rfl (Sub.cons rfl (Sub.cons rfl Sub.nil)))))⟩
  ·
   try simp only [ty] at hc2
   refine wpIn_exit ?_
   refine wpIn_seq ?_
   refine wpIn_region_lit ?_
   refine st_v hS rfl rfl (run_move hS rfl) fun a hS => st_v hS rfl rfl (run_assign hS rfl) fun a hS => wl_nil ?_
   refine wpIn_ret ?_
   repeat (first | refine q_ret ?_ | refine q_block_ret ?_)
   refine hS.done (res1 (fn := Tryz.f251) (r1 := .tmp 4) rfl (rv_tmp hS rfl)) ?_
   rw [cellGo_off (l := l) (x := x) (i := i) (by omega)] at hp; rw [hp]
 ·
  try simp only [ty] at hc1
  refine st_skip hS (hS.unwanted rfl rfl rfl rfl) rfl fun a hS => st_skip hS (hS.unwanted rfl rfl rfl rfl) rfl fun a hS => st_skip hS (hS.unwanted rfl rfl rfl rfl) rfl fun a hS => st_skip hS (hS.unwanted rfl rfl rfl rfl) rfl fun a hS => st_skip hS (hS.unwanted rfl rfl rfl rfl) rfl fun a hS => st_skip hS (hS.unwanted rfl rfl rfl rfl) rfl fun a hS => st_skip hS (hS.unwanted rfl rfl rfl rfl) rfl fun a hS => st_v hS rfl rfl (run_pick_f hS rfl rfl) fun a hS => wl_nil ?_
  refine st_cond_f hS rfl ?_
  refine wpIn_exit ?_
  refine wpIn_seq ?_
  refine wpIn_region_lit ?_
  refine st_v hS rfl rfl (run_move hS rfl) fun a hS => st_v hS rfl rfl (run_assign hS rfl) fun a hS => wl_nil ?_
  refine wpIn_ret ?_
  repeat (first | refine q_ret ?_ | refine q_block_ret ?_)
  refine hS.done (res1 (fn := Tryz.f251) (r1 := .tmp 4) rfl (rv_tmp hS rfl)) ?_
  rw [cellGo_off (l := l) (x := x) (i := i) (by omega)] at hp; rw [hp]
set_option maxHeartbeats 2000000 in
set_option maxRecDepth 100000 in
theorem ref01_Value  (Vt : TV) (t : Tab) {x : Int} {y : Int} {w : World} {Ft : Nat → Prop} (ht : TabR Ft w Vt t) (hok : tabOk t = true) (hx : ix t.X 0 ≤ x ∧ x ≤ lastOf t.X) (hy : ix t.Y 0 ≤ y ∧ y ≤ lastOf t.Y) : Ret Tryz.prog 247 [.agg (tabC Vt t).toArray, .int .i64 x, .int .i64 y] w (fun v _ => v = .tuple #[.int .i64 (num t (cellOf t.X x) (cellOf t.Y y) x y), .int .i64 (den t (cellOf t.X x) (cellOf t.Y y))]) := by
 refine ret_start (n := 131) Tryz.func247 rfl rfl rfl (fun a hS => ?_)
 have Ht : ∀ W, Below w.heap.size w W → TabR Ft W Vt t := fun W hb => ht.move (keep_of hb)
 have hmtx := ht.1.len
 have hmty := ht.2.1.len
 have hmtv := ht.2.2.len
 obtain ⟨hX, hY, hV, hR⟩ := tab_axes hok
 have hp := part4 hok (cellOf_in hX.two hx.1 hx.2) (cellOf_in hY.two hy.1 hy.2)
 have i1 := hp.i1; have k1 := hp.k1; have ha := hp.a; have hb := hp.b; have hc := hp.c; have hd := hp.d; have wx := hp.wx; have wy := hp.wy; have hrows := hp.rows
 have c0 := hp.cols (cellOf t.X x) (by omega); have c1 := hp.cols (cellOf t.X x + 1) (by omega)
 have q1 := m2 ha hc; have q2 := m2 hb hc; have q3 := m2 ha hd; have q4 := m2 hb hd
 have q5 := m2 (a := ix t.X (cellOf t.X x + 1) - ix t.X (cellOf t.X x)) (b := ix t.Y (cellOf t.Y y + 1) - ix t.Y (cellOf t.Y y)) (by omega) (by omega)
 have p1 := m3 q1 (hp.v (cellOf t.X x) (cellOf t.Y y) (by omega) (by omega))
 have p2 := m3 q2 (hp.v (cellOf t.X x + 1) (cellOf t.Y y) (by omega) (by omega))
 have p3 := m3 q3 (hp.v (cellOf t.X x) (cellOf t.Y y + 1) (by omega) (by omega))
 have p4 := m3 q4 (hp.v (cellOf t.X x + 1) (cellOf t.Y y + 1) (by omega) (by omega))
 refine wpIn_seq ?_
 refine wpIn_region_lit ?_
 refine st_box_agg hS rfl rfl rfl fun W a b0 hS => st_v hS rfl rfl (run_assign hS rfl) fun a hS => st_v hS rfl rfl (run_assign hS rfl) fun a hS => wl_nil ?_
 refine wpIn_seq ?_
 refine st_draw (by kernel_rfl) (by kernel_rfl) hS ?_
 refine qt_v hS rfl rfl (fun W hB hS => run_fieldAddr fa25_0 hS rfl) fun a hS => qt_v hS rfl rfl (fun W hB hS => run_load_one (i := 0) Tryz.isAgg22 hS rfl rfl rfl) fun a hS => qt_v hS rfl rfl (fun W hB hS => run_move hS rfl) fun a hS => qt_call hS rfl rfl Tryz.call251 rfl (fun W hB hS => ref01_part Vt.x t.X ((fun W hC => (Ht W hC).1) _ hS.below)) fun a hS => qt_v hS rfl rfl (fun W hB hS => run_fieldAddr fa25_1 hS rfl) fun a hS => qt_v hS rfl rfl (fun W hB hS => run_load_one (i := 0) Tryz.isAgg22 hS rfl rfl rfl) fun a hS => qt_v hS rfl rfl (fun W hB hS => run_move hS rfl) fun a hS => qt_call hS rfl rfl Tryz.call251 rfl (fun W hB hS => ref01_part Vt.y t.Y ((fun W hC => (Ht W hC).2.1) _ hS.below)) fun a hS => qt_v hS rfl rfl (fun W hB hS => run_assign hS rfl) fun a hS => qt_v hS rfl rfl (fun W hB hS => run_assign hS rfl) fun a hS => qt_nil hS fun W hS => ?_
 refine wpIn_seq ?_
 have hlt0 := fun B hB => hS.lt (b := B) hB
 refine st_mix (k := 17) (by kernel_rfl) (by kernel_rfl) hS rfl rfl ?_
 refine mx_v (fun a W hS hB => run_fieldAddr fa25_0 hS rfl) <| mx_v (fun a W hS hB => run_load_one (i := 0) Tryz.isAgg22 hS rfl rfl rfl) <| mx_v (fun a W hS hB => run_move hS rfl) <| mx_v (fun a W hS hB => run_add (t := (((cellOf t.X x) + 1 : Nat) : Int)) hS rfl rfl (by omega) (by omega) (by omega)) <| ?_
 obtain ⟨ad0, hA0, hL0⟩ := sl_int (fun W hC => (Ht W hC).1) (Below.refl _ _) (i := (((cellOf t.X x) + 1 : Nat) : Int)) (j := (cellOf t.X x) + 1) (by omega) (by omega)
 refine mx_v (fun a W hS hB => run_indexAddr Tryz.underlying22 Tryz.sizeOf3 hS rfl rfl hA0 (by omega) (by omega)) <| mx_v (fun a W hS hB => run_load_cell Tryz.isAgg3 hS rfl (hL0 _ hS.below)) <| mx_v (fun a W hS hB => run_move hS rfl) <| mx_v (fun a W hS hB => run_sub (t := ((ix t.X ((cellOf t.X x) + 1))) - x) hS rfl rfl (rfl) (by omega) (by omega)) <| mx_v (fun a W hS hB => run_move hS rfl) <| mx_v (fun a W hS hB => run_fieldAddr fa25_0 hS rfl) <| mx_v (fun a W hS hB => run_load_one (i := 0) Tryz.isAgg22 hS rfl rfl rfl) <| mx_v (fun a W hS hB => run_move hS rfl) <| ?_
 obtain ⟨ad1, hA1, hL1⟩ := sl_int (fun W hC => (Ht W hC).1) (Below.refl _ _) (i := ((cellOf t.X x : Nat) : Int)) (j := cellOf t.X x) (by omega) (by omega)
 refine mx_v (fun a W hS hB => run_indexAddr Tryz.underlying22 Tryz.sizeOf3 hS rfl rfl hA1 (by omega) (by omega)) <| mx_v (fun a W hS hB => run_load_cell Tryz.isAgg3 hS rfl (hL1 _ hS.below)) <| mx_v (fun a W hS hB => run_sub (t := x - ((ix t.X (cellOf t.X x)))) hS rfl rfl (rfl) (by omega) (by omega)) <| mx_v (fun a W hS hB => run_assign hS rfl) <| mx_v (fun a W hS hB => run_assign hS rfl) <| ?_
 refine mx_end fun a W bs us hS hB hL => ?_
 dsimp only [kall, ball, List.cons_append, List.nil_append] at hS
 refine wl_nil ?_
 refine wpIn_seq ?_
 have hlt0 := fun B hB => hS.lt (b := B) hB
 refine st_mix (k := 17) (by kernel_rfl) (by kernel_rfl) hS rfl rfl ?_
 refine mx_v (fun a W hS hB => run_fieldAddr fa25_1 hS rfl) <| mx_v (fun a W hS hB => run_load_one (i := 0) Tryz.isAgg22 hS rfl rfl rfl) <| mx_v (fun a W hS hB => run_move hS rfl) <| mx_v (fun a W hS hB => run_add (t := (((cellOf t.Y y) + 1 : Nat) : Int)) hS rfl rfl (by omega) (by omega) (by omega)) <| ?_
 obtain ⟨ad2, hA2, hL2⟩ := sl_int (fun W hC => (Ht W hC).2.1) (Below.refl _ _) (i := (((cellOf t.Y y) + 1 : Nat) : Int)) (j := (cellOf t.Y y) + 1) (by omega) (by omega)
 refine mx_v (fun a W hS hB => run_indexAddr Tryz.underlying22 Tryz.sizeOf3 hS rfl rfl hA2 (by omega) (by omega)) <| mx_v (fun a W hS hB => run_load_cell Tryz.isAgg3 hS rfl (hL2 _ hS.below)) <| mx_v (fun a W hS hB => run_move hS rfl) <| mx_v (fun a W hS hB => run_sub (t := ((ix t.Y ((cellOf t.Y y) + 1))) - y) hS rfl rfl (rfl) (by omega) (by omega)) <| mx_v (fun a W hS hB => run_move hS rfl) <| mx_v (fun a W hS hB => run_fieldAddr fa25_1 hS rfl) <| mx_v (fun a W hS hB => run_load_one (i := 0) Tryz.isAgg22 hS rfl rfl rfl) <| mx_v (fun a W hS hB => run_move hS rfl) <| ?_
 obtain ⟨ad3, hA3, hL3⟩ := sl_int (fun W hC => (Ht W hC).2.1) (Below.refl _ _) (i := ((cellOf t.Y y : Nat) : Int)) (j := cellOf t.Y y) (by omega) (by omega)
 refine mx_v (fun a W hS hB => run_indexAddr Tryz.underlying22 Tryz.sizeOf3 hS rfl rfl hA3 (by omega) (by omega)) <| mx_v (fun a W hS hB => run_load_cell Tryz.isAgg3 hS rfl (hL3 _ hS.below)) <| mx_v (fun a W hS hB => run_sub (t := y - ((ix t.Y (cellOf t.Y y)))) hS rfl rfl (rfl) (by omega) (by omega)) <| mx_v (fun a W hS hB => run_assign hS rfl) <| mx_v (fun a W hS hB => run_assign hS rfl) <| ?_
 refine mx_end fun a W bs us hS hB hL => ?_
 dsimp only [kall, ball, List.cons_append, List.nil_append] at hS
 refine wl_nil ?_
 have hS := hS.sub (κ' := [(0, _), (1, _), (2, _), (3, _), (6, _), (7, _), (8, _), (9, _), (10, _), (11, _), (12, _), (13, _)]) (Sub.cons rfl (Sub.cons rfl (Sub.cons rfl (Sub.cons rfl (Sub.cons rfl (Sub.cons rfl (Sub.cons rfl (Sub.cons rfl (Sub.cons rfl (Sub.cons rfl (Sub.cons rfl (Sub.cons rfl Sub.nil))))))))))))
 refine wpIn_seq ?_
 refine wpIn_region_lit ?_
 refine st_v hS rfl rfl (run_fieldAddr fa25_2 hS rfl) fun a hS => st_v hS rfl rfl (run_load_one (i := 0) Tryz.isAgg23 hS rfl rfl rfl) fun a hS => st_v hS rfl rfl (run_assign hS rfl) fun a hS => wl_nil ?_
 refine wpIn_seq ?_
 have hS := hS.sub (κ' := [(0, _), (1, _), (2, _), (3, _), (8, _), (9, _), (10, _), (11, _), (12, _), (13, _), (53, _), (54, _), (14, _)]) (Sub.cons rfl (Sub.cons rfl (Sub.cons rfl (Sub.cons rfl (Sub.cons rfl (Sub.cons rfl (Sub.cons rfl (Sub.cons rfl (Sub.cons rfl (Sub.cons rfl (Sub.cons rfl (Sub.cons rfl (Sub.cons rfl Sub.nil)))))))))))))
 have hlt0 := fun B hB => hS.lt (b := B) hB
 refine st_mix (k := 78) (by kernel_rfl) (by kernel_rfl) hS rfl rfl ?_
 refine mx_v (fun a W hS hB => run_move hS rfl) <| mx_v (fun a W hS hB => run_move hS rfl) <| mx_v (fun a W hS hB => run_mul (t := (((ix t.X ((cellOf t.X x) + 1))) - x) * (((ix t.Y ((cellOf t.Y y) + 1))) - y)) hS rfl rfl (rfl) (by omega)) <| mx_v (fun a W hS hB => run_move hS rfl) <| mx_v (fun a W hS hB => run_move hS rfl) <| ?_
 obtain ⟨ad4, s4, hA4, hL4, hR4⟩ := sl_rowB ((fun W hC => (Ht W hC).2.2) _ (Below.refl _ _)) (i := ((cellOf t.X x : Nat) : Int)) (j := cellOf t.X x) (by omega) (by omega)
 refine mx_v (fun a W hS hB => run_indexAddr Tryz.underlying23 Tryz.sizeOf22 hS rfl rfl hA4 (by omega) (by omega)) <| mx_v (fun a W hS hB => run_load_cell Tryz.isAgg22 hS rfl (hL4 _ hS.below)) <| mx_v (fun a W hS hB => run_move hS rfl) <| ?_
 obtain ⟨ad5, hA5, hL5⟩ := sl_int hR4 (Below.refl _ _) (i := ((cellOf t.Y y : Nat) : Int)) (j := cellOf t.Y y) (by omega) (by omega)
 refine mx_v (fun a W hS hB => run_indexAddr Tryz.underlying22 Tryz.sizeOf3 hS rfl rfl hA5 (by omega) (by omega)) <| mx_v (fun a W hS hB => run_load_cell Tryz.isAgg3 hS rfl (hL5 _ hS.below)) <| mx_v (fun a W hS hB => run_mul (t := ((((ix t.X ((cellOf t.X x) + 1))) - x) * (((ix t.Y ((cellOf t.Y y) + 1))) - y)) * ((ix (rowOf t.V (cellOf t.X x)) (cellOf t.Y y)))) hS rfl rfl (rfl) (by omega)) <| mx_v (fun a W hS hB => run_move hS rfl) <| mx_v (fun a W hS hB => run_move hS rfl) <| mx_v (fun a W hS hB => run_mul (t := (x - ((ix t.X (cellOf t.X x)))) * (((ix t.Y ((cellOf t.Y y) + 1))) - y)) hS rfl rfl (rfl) (by omega)) <| mx_v (fun a W hS hB => run_move hS rfl) <| mx_v (fun a W hS hB => run_move hS rfl) <| mx_v (fun a W hS hB => run_add (t := (((cellOf t.X x) + 1 : Nat) : Int)) hS rfl rfl (by omega) (by omega) (by omega)) <| ?_
 obtain ⟨ad6, s6, hA6, hL6, hR6⟩ := sl_rowB ((fun W hC => (Ht W hC).2.2) _ (Below.refl _ _)) (i := (((cellOf t.X x) + 1 : Nat) : Int)) (j := (cellOf t.X x) + 1) (by omega) (by omega)
 refine mx_v (fun a W hS hB => run_indexAddr Tryz.underlying23 Tryz.sizeOf22 hS rfl rfl hA6 (by omega) (by omega)) <| mx_v (fun a W hS hB => run_load_cell Tryz.isAgg22 hS rfl (hL6 _ hS.below)) <| mx_v (fun a W hS hB => run_move hS rfl) <| ?_
 obtain ⟨ad7, hA7, hL7⟩ := sl_int hR6 (Below.refl _ _) (i := ((cellOf t.Y y : Nat) : Int)) (j := cellOf t.Y y) (by omega) (by omega)
 refine mx_v (fun a W hS hB => run_indexAddr Tryz.underlying22 Tryz.sizeOf3 hS rfl rfl hA7 (by omega) (by omega)) <| mx_v (fun a W hS hB => run_load_cell Tryz.isAgg3 hS rfl (hL7 _ hS.below)) <| mx_v (fun a W hS hB => run_mul (t := ((x - ((ix t.X (cellOf t.X x)))) * (((ix t.Y ((cellOf t.Y y) + 1))) - y)) * ((ix (rowOf t.V ((cellOf t.X x) + 1)) (cellOf t.Y y)))) hS rfl rfl (rfl) (by omega)) <| mx_v (fun a W hS hB => run_add (t := (((((ix t.X ((cellOf t.X x) + 1))) - x) * (((ix t.Y ((cellOf t.Y y) + 1))) - y)) * ((ix (rowOf t.V (cellOf t.X x)) (cellOf t.Y y)))) + (((x - ((ix t.X (cellOf t.X x)))) * (((ix t.Y ((cellOf t.Y y) + 1))) - y)) * ((ix (rowOf t.V ((cellOf t.X x) + 1)) (cellOf t.Y y))))) hS rfl rfl (rfl) (by omega) (by omega)) <| mx_v (fun a W hS hB => run_move hS rfl) <| mx_v (fun a W hS hB => run_move hS rfl) <| mx_v (fun a W hS hB => run_mul (t := (((ix t.X ((cellOf t.X x) + 1))) - x) * (y - ((ix t.Y (cellOf t.Y y))))) hS rfl rfl (rfl) (by omega)) <| mx_v (fun a W hS hB => run_move hS rfl) <| mx_v (fun a W hS hB => run_move hS rfl) <| ?_
 obtain ⟨ad8, s8, hA8, hL8, hR8⟩ := sl_rowB ((fun W hC => (Ht W hC).2.2) _ (Below.refl _ _)) (i := ((cellOf t.X x : Nat) : Int)) (j := cellOf t.X x) (by omega) (by omega)
 refine mx_v (fun a W hS hB => run_indexAddr Tryz.underlying23 Tryz.sizeOf22 hS rfl rfl hA8 (by omega) (by omega)) <| mx_v (fun a W hS hB => run_load_cell Tryz.isAgg22 hS rfl (hL8 _ hS.below)) <| mx_v (fun a W hS hB => run_move hS rfl) <| mx_v (fun a W hS hB => run_add (t := (((cellOf t.Y y) + 1 : Nat) : Int)) hS rfl rfl (by omega) (by omega) (by omega)) <| ?_
 obtain ⟨ad9, hA9, hL9⟩ := sl_int hR8 (Below.refl _ _) (i := (((cellOf t.Y y) + 1 : Nat) : Int)) (j := (cellOf t.Y y) + 1) (by omega) (by omega)
 refine mx_v (fun a W hS hB => run_indexAddr Tryz.underlying22 Tryz.sizeOf3 hS rfl rfl hA9 (by omega) (by omega)) <| mx_v (fun a W hS hB => run_load_cell Tryz.isAgg3 hS rfl (hL9 _ hS.below)) <| mx_v (fun a W hS hB => run_mul (t := ((((ix t.X ((cellOf t.X x) + 1))) - x) * (y - ((ix t.Y (cellOf t.Y y))))) * ((ix (rowOf t.V (cellOf t.X x)) ((cellOf t.Y y) + 1)))) hS rfl rfl (rfl) (by omega)) <| mx_v (fun a W hS hB => run_add (t := ((((((ix t.X ((cellOf t.X x) + 1))) - x) * (((ix t.Y ((cellOf t.Y y) + 1))) - y)) * ((ix (rowOf t.V (cellOf t.X x)) (cellOf t.Y y)))) + (((x - ((ix t.X (cellOf t.X x)))) * (((ix t.Y ((cellOf t.Y y) + 1))) - y)) * ((ix (rowOf t.V ((cellOf t.X x) + 1)) (cellOf t.Y y))))) + (((((ix t.X ((cellOf t.X x) + 1))) - x) * (y - ((ix t.Y (cellOf t.Y y))))) * ((ix (rowOf t.V (cellOf t.X x)) ((cellOf t.Y y) + 1))))) hS rfl rfl (rfl) (by omega) (by omega)) <| mx_v (fun a W hS hB => run_move hS rfl) <| mx_v (fun a W hS hB => run_move hS rfl) <| mx_v (fun a W hS hB => run_mul (t := (x - ((ix t.X (cellOf t.X x)))) * (y - ((ix t.Y (cellOf t.Y y))))) hS rfl rfl (rfl) (by omega)) <| mx_v (fun a W hS hB => run_move hS rfl) <| mx_v (fun a W hS hB => run_move hS rfl) <| mx_v (fun a W hS hB => run_add (t := (((cellOf t.X x) + 1 : Nat) : Int)) hS rfl rfl (by omega) (by omega) (by omega)) <| ?_
 obtain ⟨ad10, s10, hA10, hL10, hR10⟩ := sl_rowB ((fun W hC => (Ht W hC).2.2) _ (Below.refl _ _)) (i := (((cellOf t.X x) + 1 : Nat) : Int)) (j := (cellOf t.X x) + 1) (by omega) (by omega)
 refine mx_v (fun a W hS hB => run_indexAddr Tryz.underlying23 Tryz.sizeOf22 hS rfl rfl hA10 (by omega) (by omega)) <| mx_v (fun a W hS hB => run_load_cell Tryz.isAgg22 hS rfl (hL10 _ hS.below)) <| mx_v (fun a W hS hB => run_move hS rfl) <| mx_v (fun a W hS hB => run_add (t := (((cellOf t.Y y) + 1 : Nat) : Int)) hS rfl rfl (by omega) (by omega) (by omega)) <| ?_
 obtain ⟨ad11, hA11, hL11⟩ := sl_int hR10 (Below.refl _ _) (i := (((cellOf t.Y y) + 1 : Nat) : Int)) (j := (cellOf t.Y y) + 1) (by omega) (by omega)
 refine mx_v (fun a W hS hB => run_indexAddr Tryz.underlying22 Tryz.sizeOf3 hS rfl rfl hA11 (by omega) (by omega)) <| mx_v (fun a W hS hB => run_load_cell Tryz.isAgg3 hS rfl (hL11 _ hS.below)) <| mx_v (fun a W hS hB => run_mul (t := ((x - ((ix t.X (cellOf t.X x)))) * (y - ((ix t.Y (cellOf t.Y y))))) * ((ix (rowOf t.V ((cellOf t.X x) + 1)) ((cellOf t.Y y) + 1)))) hS rfl rfl (rfl) (by omega)) <| mx_v (fun a W hS hB => run_add (t := (((((((ix t.X ((cellOf t.X x) + 1))) - x) * (((ix t.Y ((cellOf t.Y y) + 1))) - y)) * ((ix (rowOf t.V (cellOf t.X x)) (cellOf t.Y y)))) + (((x - ((ix t.X (cellOf t.X x)))) * (((ix t.Y ((cellOf t.Y y) + 1))) - y)) * ((ix (rowOf t.V ((cellOf t.X x) + 1)) (cellOf t.Y y))))) + (((((ix t.X ((cellOf t.X x) + 1))) - x) * (y - ((ix t.Y (cellOf t.Y y))))) * ((ix (rowOf t.V (cellOf t.X x)) ((cellOf t.Y y) + 1))))) + (((x - ((ix t.X (cellOf t.X x)))) * (y - ((ix t.Y (cellOf t.Y y))))) * ((ix (rowOf t.V ((cellOf t.X x) + 1)) ((cellOf t.Y y) + 1))))) hS rfl rfl (rfl) (by omega) (by omega)) <| mx_v (fun a W hS hB => run_fieldAddr fa25_0 hS rfl) <| mx_v (fun a W hS hB => run_load_one (i := 0) Tryz.isAgg22 hS rfl rfl rfl) <| mx_v (fun a W hS hB => run_move hS rfl) <| mx_v (fun a W hS hB => run_add (t := (((cellOf t.X x) + 1 : Nat) : Int)) hS rfl rfl (by omega) (by omega) (by omega)) <| ?_
 obtain ⟨ad12, hA12, hL12⟩ := sl_int (fun W hC => (Ht W hC).1) (Below.refl _ _) (i := (((cellOf t.X x) + 1 : Nat) : Int)) (j := (cellOf t.X x) + 1) (by omega) (by omega)
 refine mx_v (fun a W hS hB => run_indexAddr Tryz.underlying22 Tryz.sizeOf3 hS rfl rfl hA12 (by omega) (by omega)) <| mx_v (fun a W hS hB => run_load_cell Tryz.isAgg3 hS rfl (hL12 _ hS.below)) <| mx_v (fun a W hS hB => run_fieldAddr fa25_0 hS rfl) <| mx_v (fun a W hS hB => run_load_one (i := 0) Tryz.isAgg22 hS rfl rfl rfl) <| mx_v (fun a W hS hB => run_move hS rfl) <| ?_
 obtain ⟨ad13, hA13, hL13⟩ := sl_int (fun W hC => (Ht W hC).1) (Below.refl _ _) (i := ((cellOf t.X x : Nat) : Int)) (j := cellOf t.X x) (by omega) (by omega)
 refine mx_v (fun a W hS hB => run_indexAddr Tryz.underlying22 Tryz.sizeOf3 hS rfl rfl hA13 (by omega) (by omega)) <| mx_v (fun a W hS hB => run_load_cell Tryz.isAgg3 hS rfl (hL13 _ hS.below)) <| mx_v (fun a W hS hB => run_sub (t := ((ix t.X ((cellOf t.X x) + 1))) - ((ix t.X (cellOf t.X x)))) hS rfl rfl (rfl) (by omega) (by omega)) <| mx_v (fun a W hS hB => run_fieldAddr fa25_1 hS rfl) <| mx_v (fun a W hS hB => run_load_one (i := 0) Tryz.isAgg22 hS rfl rfl rfl) <| mx_v (fun a W hS hB => run_move hS rfl) <| mx_v (fun a W hS hB => run_add (t := (((cellOf t.Y y) + 1 : Nat) : Int)) hS rfl rfl (by omega) (by omega) (by omega)) <| ?_
 obtain ⟨ad14, hA14, hL14⟩ := sl_int (fun W hC => (Ht W hC).2.1) (Below.refl _ _) (i := (((cellOf t.Y y) + 1 : Nat) : Int)) (j := (cellOf t.Y y) + 1) (by omega) (by omega)
 refine mx_v (fun a W hS hB => run_indexAddr Tryz.underlying22 Tryz.sizeOf3 hS rfl rfl hA14 (by omega) (by omega)) <| mx_v (fun a W hS hB => run_load_cell Tryz.isAgg3 hS rfl (hL14 _ hS.below)) <| mx_v (fun a W hS hB => run_fieldAddr fa25_1 hS rfl) <| mx_v (fun a W hS hB => run_load_one (i := 0) Tryz.isAgg22 hS rfl rfl rfl) <| mx_v (fun a W hS hB => run_move hS rfl) <| ?_
 obtain ⟨ad15, hA15, hL15⟩ := sl_int (fun W hC => (Ht W hC).2.1) (Below.refl _ _) (i := ((cellOf t.Y y : Nat) : Int)) (j := cellOf t.Y y) (by omega) (by omega)
 refine mx_v (fun a W hS hB => run_indexAddr Tryz.underlying22 Tryz.sizeOf3 hS rfl rfl hA15 (by omega) (by omega)) <| mx_v (fun a W hS hB => run_load_cell Tryz.isAgg3 hS rfl (hL15 _ hS.below)) <| mx_v (fun a W hS hB => run_sub (t := ((ix t.Y ((cellOf t.Y y) + 1))) - ((ix t.Y (cellOf t.Y y)))) hS rfl rfl (rfl) (by omega) (by omega)) <| mx_v (fun a W hS hB => run_mul (t := (((ix t.X ((cellOf t.X x) + 1))) - ((ix t.X (cellOf t.X x)))) * (((ix t.Y ((cellOf t.Y y) + 1))) - ((ix t.Y (cellOf t.Y y))))) hS rfl rfl (rfl) (by omega)) <| mx_v (fun a W hS hB => run_assign hS rfl) <| mx_v (fun a W hS hB => run_assign hS rfl) <| ?_
 refine mx_end fun a W bs us hS hB hL => ?_
 dsimp only [kall, ball, List.cons_append, List.nil_append] at hS
 refine wl_nil ?_
 have hS := hS.sub (κ' := [(0, _), (1, _), (2, _), (3, _), (8, _), (9, _), (10, _), (11, _), (12, _), (13, _), (14, _), (6, _), (7, _)]) (Sub.cons rfl (Sub.cons rfl (Sub.cons rfl (Sub.cons rfl (Sub.cons rfl (Sub.cons rfl (Sub.cons rfl (Sub.cons rfl (Sub.cons rfl (Sub.cons rfl (Sub.cons rfl (Sub.cons rfl (Sub.cons rfl Sub.nil)))))))))))))
 refine wpIn_ret ?_
 repeat (first | refine q_ret ?_ | refine q_block_ret ?_)
 refine hS.done (res2 (fn := Tryz.f247) (r1 := .tmp 6) (r2 := .tmp 7) rfl (rv_tmp hS rfl) (rv_tmp hS rfl)) ?_
 rfl
set_option maxHeartbeats 2000000 in
set_option maxRecDepth 100000 in
theorem ref01_two  (p : Span) (q : Span) {w : World}   : Ret Tryz.prog 245 [.agg (spanC p).toArray, .agg (spanC q).toArray] w (fun v _ => v = .int .i64 (if p.ok && q.ok then 0 else 10)) := by
 refine ret_start (n := 13) Tryz.func245 rfl rfl rfl (fun a hS => ?_)
 refine wpIn_seq ?_
 refine wpIn_region_lit ?_
 refine st_box_agg hS rfl rfl rfl fun W a b0 hS => st_box_agg hS rfl rfl rfl fun W a b1 hS => st_v hS rfl rfl (run_assign hS rfl) fun a hS => wl_nil ?_
 refine wpIn_seq ?_
 refine wpIn_seq ?_
 refine wpIn_region_lit ?_
 refine st_v hS rfl rfl (run_load_all (i := 1) Tryz.isAgg31 Tryz.sizeOf31 hS rfl rfl rfl) fun a hS => st_call (ref01_Valid p) Tryz.call184 hS rfl rfl rfl fun v W a hR hB hlt hS => ?_
 subst hR
 refine st_v hS rfl rfl (run_not hS rfl) fun a hS => st_v hS rfl rfl (run_move hS rfl) fun a hS => ?_
 refine st_split (d := 8) hS rfl (fun hc1 hS => ?_) (fun hc1 hS => ?_)
 ·
  try simp only [ty] at hc1
  refine st_skip hS (hS.unwanted rfl rfl rfl rfl) rfl fun a hS => st_skip hS (hS.unwanted rfl rfl rfl rfl) rfl fun a hS => st_skip hS (hS.unwanted rfl rfl rfl rfl) rfl fun a hS => st_v hS rfl rfl (run_pick_t hS rfl rfl) fun a hS => wl_nil ?_
  refine st_cond_t hS rfl ?_
  refine wpIn_seq ?_
  refine wpIn_region_lit ?_
  refine st_v hS rfl rfl (run_assign hS rfl) fun a hS => wl_nil ?_
  refine wpIn_ret ?_
  repeat (first | refine q_ret ?_ | refine q_block_ret ?_)
  refine hS.done (res1 (fn := Tryz.f245) (r1 := .tmp 4) rfl (rv_tmp hS rfl)) ?_
  simp [hc1]
 ·
  try simp only [ty] at hc1
  refine st_v hS (hS.wanted rfl rfl rfl) rfl (run_load_all (i := 0) Tryz.isAgg31 Tryz.sizeOf31 hS rfl rfl rfl) fun a hS => st_call (ref01_Valid q) Tryz.call184 hS (hS.wanted rfl rfl rfl) rfl rfl fun v W a hR hB hlt hS => ?_
  subst hR
  refine st_v hS (hS.wanted rfl rfl rfl) rfl (run_not hS rfl) fun a hS => st_v hS rfl rfl (run_pick_f hS rfl rfl) fun a hS => wl_nil ?_
  refine st_cond hS rfl (fun hc2 => ?_) (fun hc2 => ?_)
  ·
   try simp only [ty] at hc2
   refine wpIn_seq ?_
   refine wpIn_region_lit ?_
   refine st_v hS rfl rfl (run_assign hS rfl) fun a hS => wl_nil ?_
   refine wpIn_ret ?_
   repeat (first | refine q_ret ?_ | refine q_block_ret ?_)
   refine hS.done (res1 (fn := Tryz.f245) (r1 := .tmp 4) rfl (rv_tmp hS rfl)) ?_
   simp [hc1, hc2]
  ·
   try simp only [ty] at hc2
   refine wpIn_skip ?_
   refine wpIn_seq ?_
   refine wpIn_region_lit ?_
   refine st_v hS rfl rfl (run_assign hS rfl) fun a hS => wl_nil ?_
   refine wpIn_ret ?_
   repeat (first | refine q_ret ?_ | refine q_block_ret ?_)
   refine hS.done (res1 (fn := Tryz.f245) (r1 := .tmp 4) rfl (rv_tmp hS rfl)) ?_
   simp [hc1, hc2]
set_option maxHeartbeats 2000000 in
set_option maxRecDepth 100000 in
theorem ref01_Between  (sl : SV) (l : List Int) (p : Span) {w : World} {Fl : Nat → Prop} (hl : Sl kInt Fl w sl l) (h0 : 0 < l.length) : Ret Tryz.prog 161 [.slice sl.a l.length sl.c, .agg (spanC p).toArray] w (fun v _ => v = .bool (lies l p.lo p.hi)) := by
 refine ret_start (n := 22) Tryz.func161 rfl rfl rfl (fun a hS => ?_)
 have Hl : ∀ W, Below w.heap.size w W → Sl kInt Fl W sl l := fun W hb => hl.at_ hb
 have hml := hl.len
 refine wpIn_seq ?_
 refine wpIn_region_lit ?_
 refine st_box_agg hS rfl rfl rfl fun W a b0 hS => st_v hS rfl rfl (run_assign hS rfl) fun a hS => wl_nil ?_
 refine wpIn_seq ?_
 refine st_draw (by kernel_rfl) (by kernel_rfl) hS ?_
 refine qt_v hS rfl rfl (fun W hB hS => run_fieldAddr fa31_0 hS rfl) fun a hS => qt_v hS rfl rfl (fun W hB hS => run_load_one (i := 0) Tryz.isAgg3 hS rfl rfl rfl) fun a hS => qt_v hS rfl rfl (fun W hB hS => run_move hS rfl) fun a hS => ?_
 obtain ⟨ad0, hA0, hL0⟩ := sl_int Hl (Below.refl _ _) (i := 0) (j := 0) (by omega) (by omega)
 refine qt_v hS rfl rfl (fun W hB hS => run_indexAddr Tryz.underlying22 Tryz.sizeOf3 hS rfl rfl hA0 (by omega) (by omega)) fun a hS => qt_v hS rfl rfl (fun W hB hS => run_load_cell Tryz.isAgg3 hS rfl (hL0 _ hS.below)) fun a hS => qt_v hS rfl rfl (fun W hB hS => run_bin hS rfl rfl rfl) fun a hS => qt_v hS rfl rfl (fun W hB hS => run_move hS rfl) fun a hS => ?_
 refine st_split (d := 11) hS rfl (fun hc1 hS => ?_) (fun hc1 hS => ?_)
 ·
  try simp only [ty] at hc1
  refine qt_v hS (hS.wanted rfl rfl rfl) rfl (fun W hB hS => run_fieldAddr fa31_1 hS rfl) fun a hS => qt_v hS (hS.wanted rfl rfl rfl) rfl (fun W hB hS => run_load_one (i := 0) Tryz.isAgg3 hS rfl rfl rfl) fun a hS => qt_v hS (hS.wanted rfl rfl rfl) rfl (fun W hB hS => run_move hS rfl) fun a hS => qt_v hS (hS.wanted rfl rfl rfl) rfl (fun W hB hS => run_move hS rfl) fun a hS => qt_v hS (hS.wanted rfl rfl rfl) rfl (fun W hB hS => run_len_slice Tryz.underlying22 hS rfl) fun a hS => qt_v hS (hS.wanted rfl rfl rfl) rfl (fun W hB hS => run_sub (t := ((l.length - 1 : Nat) : Int)) hS rfl rfl (by omega) (by omega) (by omega)) fun a hS => ?_
  obtain ⟨ad1, hA1, hL1⟩ := sl_int Hl (Below.refl _ _) (i := ((l.length - 1 : Nat) : Int)) (j := l.length - 1) (by omega) (by omega)
  refine qt_v hS (hS.wanted rfl rfl rfl) rfl (fun W hB hS => run_indexAddr Tryz.underlying22 Tryz.sizeOf3 hS rfl rfl hA1 (by omega) (by omega)) fun a hS => qt_v hS (hS.wanted rfl rfl rfl) rfl (fun W hB hS => run_load_cell Tryz.isAgg3 hS rfl (hL1 _ hS.below)) fun a hS => qt_v hS (hS.wanted rfl rfl rfl) rfl (fun W hB hS => run_bin hS rfl rfl rfl) fun a hS => qt_v hS rfl rfl (fun W hB hS => run_pick_t hS rfl rfl) fun a hS => qt_v hS rfl rfl (fun W hB hS => run_assign hS rfl) fun a hS => qt_nil hS fun W hS => ?_
  refine wpIn_ret ?_
  repeat (first | refine q_ret ?_ | refine q_block_ret ?_)
  refine hS.done (res1 (fn := Tryz.f161) (r1 := .tmp 4) rfl (rv_tmp hS rfl)) ?_
  refine vb ?_; simp only [lies, Bool.and_eq_true, decide_eq_true_eq, Bool.false_eq_true, false_iff]; unfold lastOf; omega
 ·
  try simp only [ty] at hc1
  refine qt_skip hS (hS.unwanted rfl rfl rfl rfl) rfl fun a hS => qt_skip hS (hS.unwanted rfl rfl rfl rfl) rfl fun a hS => qt_skip hS (hS.unwanted rfl rfl rfl rfl) rfl fun a hS => qt_skip hS (hS.unwanted rfl rfl rfl rfl) rfl fun a hS => qt_skip hS (hS.unwanted rfl rfl rfl rfl) rfl fun a hS => qt_skip hS (hS.unwanted rfl rfl rfl rfl) rfl fun a hS => qt_skip hS (hS.unwanted rfl rfl rfl rfl) rfl fun a hS => qt_skip hS (hS.unwanted rfl rfl rfl rfl) rfl fun a hS => qt_skip hS (hS.unwanted rfl rfl rfl rfl) rfl fun a hS => qt_v hS rfl rfl (fun W hB hS => run_pick_f hS rfl rfl) fun a hS => qt_v hS rfl rfl (fun W hB hS => run_assign hS rfl) fun a hS => qt_nil hS fun W hS => ?_
  refine wpIn_ret ?_
  repeat (first | refine q_ret ?_ | refine q_block_ret ?_)
  refine hS.done (res1 (fn := Tryz.f161) (r1 := .tmp 4) rfl (rv_tmp hS rfl)) ?_
  refine vb ?_; simp only [lies, Bool.and_eq_true, decide_eq_true_eq, Bool.false_eq_true, false_iff]; unfold lastOf; omega
set_option maxHeartbeats 2000000 in
set_option maxRecDepth 100000 in
theorem ref01_CheckBound  (Vt : TV) (t : Tab) (p : Span) (q : Span) {w : World} {Ft : Nat → Prop} (ht : TabR Ft w Vt t)  : Ret Tryz.prog 223 [.agg (tabC Vt t).toArray, .agg (spanC p).toArray, .agg (spanC q).toArray] w (fun v _ => v = .int .i64 (if tabOk t then (if p.ok && q.ok then (if liesT t p q then 0 else 1) else 10) else 11)) := by
 refine ret_start (n := 31) Tryz.func223 rfl rfl rfl (fun a hS => ?_)
 have Ht : ∀ W, Below w.heap.size w W → TabR Ft W Vt t := fun W hb => ht.move (keep_of hb)
 have hmtx := ht.1.len
 have hmty := ht.2.1.len
 have hmtv := ht.2.2.len
 refine wpIn_seq ?_
 refine wpIn_region_lit ?_
 refine st_box_agg hS rfl rfl rfl fun W a b0 hS => st_box_agg hS rfl rfl rfl fun W a b1 hS => st_box_agg hS rfl rfl rfl fun W a b2 hS => st_v hS rfl rfl (run_assign hS rfl) fun a hS => wl_nil ?_
 refine wpIn_seq ?_
 refine wpIn_region_lit ?_
 refine st_v hS rfl rfl (run_load_all (i := 2) Tryz.isAgg25 Tryz.sizeOf25 hS rfl rfl rfl) fun a hS => st_call (ref01_CheckTable Vt t (Ht _ hS.below)) Tryz.call216 hS rfl rfl rfl fun v W a hR hB hlt hS => ?_
 subst hR
 refine st_v hS rfl rfl (run_assign hS rfl) fun a hS => wl_nil ?_
 refine wpIn_seq ?_
 refine wpIn_seq ?_
 refine wpIn_region_lit ?_
 refine st_v hS rfl rfl (run_move hS rfl) fun a hS => st_v hS rfl rfl (run_bin hS rfl rfl rfl) fun a hS => wl_nil ?_
 refine st_cond hS rfl (fun hc1 => ?_) (fun hc1 => ?_)
 ·
  try simp only [ty] at hc1
  refine wpIn_seq ?_
  refine wpIn_region_lit ?_
  refine st_v hS rfl rfl (run_move hS rfl) fun a hS => st_v hS rfl rfl (run_assign hS rfl) fun a hS => wl_nil ?_
  refine wpIn_ret ?_
  repeat (first | refine q_ret ?_ | refine q_block_ret ?_)
  refine hS.done (res1 (fn := Tryz.f223) (r1 := .tmp 6) rfl (rv_tmp hS rfl)) ?_
  split at hc1 <;> simp_all
 ·
  try simp only [ty] at hc1
  have hok : tabOk t = true := by
    cases h : tabOk t <;> simp [h] at hc1 ⊢
  obtain ⟨hX, hY, _, _⟩ := tab_axes hok
  have := hX.two; have := hY.two
  refine wpIn_skip ?_
  refine wpIn_seq ?_
  refine wpIn_region_lit ?_
  refine st_v hS rfl rfl (run_load_all (i := 1) Tryz.isAgg31 Tryz.sizeOf31 hS rfl rfl rfl) fun a hS => st_v hS rfl rfl (run_load_all (i := 0) Tryz.isAgg31 Tryz.sizeOf31 hS rfl rfl rfl) fun a hS => st_call (ref01_two p q) Tryz.call245 hS rfl rfl rfl fun v W a hR hB hlt hS => ?_
  subst hR
  refine st_v hS rfl rfl (run_assign hS rfl) fun a hS => wl_nil ?_
  refine wpIn_seq ?_
  refine wpIn_seq ?_
  refine wpIn_region_lit ?_
  refine st_v hS rfl rfl (run_move hS rfl) fun a hS => st_v hS rfl rfl (run_bin hS rfl rfl rfl) fun a hS => wl_nil ?_
  refine st_cond hS rfl (fun hc2 => ?_) (fun hc2 => ?_)
  ·
   try simp only [ty] at hc2
   refine wpIn_seq ?_
   refine wpIn_region_lit ?_
   refine st_v hS rfl rfl (run_move hS rfl) fun a hS => st_v hS rfl rfl (run_assign hS rfl) fun a hS => wl_nil ?_
   refine wpIn_ret ?_
   repeat (first | refine q_ret ?_ | refine q_block_ret ?_)
   refine hS.done (res1 (fn := Tryz.f223) (r1 := .tmp 6) rfl (rv_tmp hS rfl)) ?_
   rw [if_pos hok]; cases h : (p.ok && q.ok)
   · simp
   · simp [h] at hc2
  ·
   try simp only [ty] at hc2
   refine wpIn_skip ?_
   refine wpIn_seq ?_
   refine wpIn_seq ?_
   refine wpIn_region_lit ?_
   refine st_v hS rfl rfl (run_fieldAddr fa25_0 hS rfl) fun a hS => st_v hS rfl rfl (run_load_one (i := 2) Tryz.isAgg22 hS rfl rfl rfl) fun a hS => st_v hS rfl rfl (run_load_all (i := 1) Tryz.isAgg31 Tryz.sizeOf31 hS rfl rfl rfl) fun a hS => st_call (ref01_Between Vt.x t.X p ((fun W hC => (Ht W hC).1) _ hS.below) (by omega)) Tryz.call161 hS rfl rfl rfl fun v W a hR hB hlt hS => ?_
   subst hR
   refine st_v hS rfl rfl (run_not hS rfl) fun a hS => st_v hS rfl rfl (run_move hS rfl) fun a hS => ?_
   refine st_split (d := 24) hS rfl (fun hc3 hS => ?_) (fun hc3 hS => ?_)
   ·
    try simp only [ty] at hc3
    refine st_skip hS (hS.unwanted rfl rfl rfl rfl) rfl fun a hS => st_skip hS (hS.unwanted rfl rfl rfl rfl) rfl fun a hS => st_skip hS (hS.unwanted rfl rfl rfl rfl) rfl fun a hS => st_skip hS (hS.unwanted rfl rfl rfl rfl) rfl fun a hS => st_skip hS (hS.unwanted rfl rfl rfl rfl) rfl fun a hS => st_v hS rfl rfl (run_pick_t hS rfl rfl) fun a hS => wl_nil ?_
    refine st_cond_t hS rfl ?_
    refine wpIn_seq ?_
    refine wpIn_region_lit ?_
    refine st_v hS rfl rfl (run_assign hS rfl) fun a hS => wl_nil ?_
    refine wpIn_ret ?_
    repeat (first | refine q_ret ?_ | refine q_block_ret ?_)
    refine hS.done (res1 (fn := Tryz.f223) (r1 := .tmp 6) rfl (rv_tmp hS rfl)) ?_
    have hpq : (p.ok && q.ok) = true := by
      cases h : (p.ok && q.ok) <;> simp [h] at hc2 ⊢
    rw [if_pos hok, if_pos hpq]; simp [liesT, hc1, hc2, hc3]
   ·
    try simp only [ty] at hc3
    refine st_v hS (hS.wanted rfl rfl rfl) rfl (run_fieldAddr fa25_1 hS rfl) fun a hS => st_v hS (hS.wanted rfl rfl rfl) rfl (run_load_one (i := 2) Tryz.isAgg22 hS rfl rfl rfl) fun a hS => st_v hS (hS.wanted rfl rfl rfl) rfl (run_load_all (i := 0) Tryz.isAgg31 Tryz.sizeOf31 hS rfl rfl rfl) fun a hS => st_call (ref01_Between Vt.y t.Y q ((fun W hC => (Ht W hC).2.1) _ hS.below) (by omega)) Tryz.call161 hS (hS.wanted rfl rfl rfl) rfl rfl fun v W a hR hB hlt hS => ?_
    subst hR
    refine st_v hS (hS.wanted rfl rfl rfl) rfl (run_not hS rfl) fun a hS => st_v hS rfl rfl (run_pick_f hS rfl rfl) fun a hS => wl_nil ?_
    refine st_cond hS rfl (fun hc4 => ?_) (fun hc4 => ?_)
    ·
     try simp only [ty] at hc4
     refine wpIn_seq ?_
     refine wpIn_region_lit ?_
     refine st_v hS rfl rfl (run_assign hS rfl) fun a hS => wl_nil ?_
     refine wpIn_ret ?_
     repeat (first | refine q_ret ?_ | refine q_block_ret ?_)
     refine hS.done (res1 (fn := Tryz.f223) (r1 := .tmp 6) rfl (rv_tmp hS rfl)) ?_
     have hpq : (p.ok && q.ok) = true := by
       cases h : (p.ok && q.ok) <;> simp [h] at hc2 ⊢
     rw [if_pos hok, if_pos hpq]; simp [liesT, hc1, hc2, hc3, hc4]
    ·
     try simp only [ty] at hc4
     refine wpIn_skip ?_
     refine wpIn_seq ?_
     refine wpIn_region_lit ?_
     refine st_v hS rfl rfl (run_assign hS rfl) fun a hS => wl_nil ?_
     refine wpIn_ret ?_
     repeat (first | refine q_ret ?_ | refine q_block_ret ?_)
     refine hS.done (res1 (fn := Tryz.f223) (r1 := .tmp 6) rfl (rv_tmp hS rfl)) ?_
     have hpq : (p.ok && q.ok) = true := by
       cases h : (p.ok && q.ok) <;> simp [h] at hc2 ⊢
     rw [if_pos hok, if_pos hpq]; simp [liesT, hc1, hc2, hc3, hc4]
def stopsI (l : List Int) (lo hi : Int) (i : Nat) : List Int := lo :: (l.take i).filter fun x => decide (lo < x) && decide (x < hi)
theorem stopsI_on {l : List Int} {lo hi : Int} {i : Nat} (h : i < l.length) (h1 : lo < ix l i) (h2 : ix l i < hi) : stopsI l lo hi (i + 1) = stopsI l lo hi i ++ [ix l i] := by
  have e : l[i] = ix l i := by simp [ix, List.getD_eq_getElem?_getD, h]
  unfold stopsI
  rw [List.take_succ_eq_append_getElem h, List.filter_append, e]
  simp [h1, h2]
theorem stopsI_off {l : List Int} {lo hi : Int} {i : Nat} (h : i < l.length) (h1 : ¬ (lo < ix l i ∧ ix l i < hi)) : stopsI l lo hi (i + 1) = stopsI l lo hi i := by
  have e : l[i] = ix l i := by simp [ix, List.getD_eq_getElem?_getD, h]
  unfold stopsI
  rw [List.take_succ_eq_append_getElem h, List.filter_append, e]
  have : (decide (lo < ix l i) && decide (ix l i < hi)) = false := by
    rw [Bool.and_eq_false_iff]; simp only [decide_eq_false_iff_not]; omega
  rw [List.filter_cons_of_neg (by rw [this]; simp)]; simp
theorem stopsI_len (l : List Int) (lo hi : Int) (i : Nat) : (stopsI l lo hi i).length ≤ l.length + 1 := by
  unfold stopsI
  have h1 := List.length_filter_le (fun x => decide (lo < x) && decide (x < hi)) (l.take i)
  have h2 : (l.take i).length ≤ l.length := by rw [List.length_take]; omega
  simp only [List.length_cons]; omega
theorem stopsI_end {l : List Int} {lo hi : Int} {i : Nat} (h : l.length ≤ i) : stops l lo hi = stopsI l lo hi i ++ (if lo < hi then [hi] else []) := by
  unfold stops stopsI
  rw [List.take_of_length_le h]; rfl
set_option maxHeartbeats 2000000 in
set_option maxRecDepth 100000 in
theorem ref01_corners  (sl : SV) (l : List Int) (p : Span) {w : World} {Fl : Nat → Prop} (hl : Sl kInt Fl w sl l) (hl12 : l.length ≤ 12) : Ret Tryz.prog 246 [.slice sl.a l.length sl.c, .agg (spanC p).toArray] w (fun v W' => ∃ s : SV, v = .slice s.a (stops l p.lo p.hi).length s.c ∧ Sl kInt (fun k => w.heap.size ≤ k) W' s (stops l p.lo p.hi)) := by
 refine ret_start (n := 50) Tryz.func246 rfl rfl rfl (fun a hS => ?_)
 have Hl : ∀ W, Below w.heap.size w W → Sl kInt Fl W sl l := fun W hb => hl.at_ hb
 have hml := hl.len
 refine wpIn_seq ?_
 refine wpIn_region_lit ?_
 refine st_box_agg hS rfl rfl rfl fun W a b0 hS => st_v hS rfl rfl (run_assign hS rfl) fun a hS => wl_nil ?_
 refine wpIn_seq ?_
 refine wpIn_region_lit ?_
 refine st_v hS rfl rfl (run_fieldAddr fa31_0 hS rfl) fun a hS => st_v hS rfl rfl (run_load_one (i := 0) Tryz.isAgg3 hS rfl rfl rfl) fun a hS => st_buildSlice (pv := [(0, .int .i64 _)]) (fun W => bs22_1_0 _ W) hS rfl rfl rfl fun W a b1 hS => ?_
 have hO1 : OwnL eInt 1 _ ([p.lo]) _ := OwnR.made b1 1 1 _ rfl (by decide)
 have hS := hS.toRow (k := 1) (c := 1)
 refine st_v hS rfl rfl (run_assign hS rfl) fun a hS => wl_nil ?_
 refine wpIn_seq ?_
 refine wpIn_seq ?_
 refine wpIn_region_lit ?_
 refine st_v hS rfl rfl (run_assign hS rfl) fun a hS => wl_nil ?_
 refine wpIn_block ?_
 refine st_loop2 (α := Nat × Value × List Value) (fun z => [(5, z.2.1), (6, .int .i64 ((z.1 : Nat) : Int))]) [(0, _), (1, _), (3, _), (4, _)] (fun l z => l.take 1 ++ rowB z.2.1 z.2.2 3) (fun z => z.1 ≤ l.length ∧ OwnL eInt 1 z.2.1 (stopsI l p.lo p.hi z.1) z.2.2) (fun z => l.length - z.1) (⟨0, _, _⟩) hS (Sub.cons rfl (Sub.cons rfl (Sub.cons rfl (Sub.cons rfl (Sub.cons rfl (Sub.cons rfl Sub.nil)))))) rfl (⟨Nat.zero_le _, by simpa [stopsI] using hO1⟩) (fun z W a hφ hS => ?_)
 obtain ⟨i, v, cs⟩ := z
 dsimp only [setB, List.cons_append, List.nil_append, List.take] at hS hφ
 obtain ⟨hi, hO⟩ := hφ
 have hsl := stopsI_len l p.lo p.hi i
 refine wpIn_seq ?_
 refine wpIn_seq ?_
 refine wpIn_region_lit ?_
 refine st_v hS rfl rfl (run_move hS rfl) fun a hS => st_v hS rfl rfl (run_move hS rfl) fun a hS => st_v hS rfl rfl (run_len_slice Tryz.underlying22 hS rfl) fun a hS => st_v hS rfl rfl (run_bin hS rfl rfl rfl) fun a hS => wl_nil ?_
 refine st_cond hS rfl (fun hc1 => ?_) (fun hc1 => ?_)
 ·
  try simp only [ty] at hc1
  refine wpIn_skip ?_
  refine wpIn_seq ?_
  refine wpIn_block ?_
  refine wpIn_seq ?_
  refine st_draw (by kernel_rfl) (by kernel_rfl) hS ?_
  refine qt_v hS rfl rfl (fun W hB hS => run_move hS rfl) fun a hS => qt_v hS rfl rfl (fun W hB hS => run_move hS rfl) fun a hS => ?_
  obtain ⟨ad0, hA0, hL0⟩ := sl_int Hl (Below.refl _ _) (i := ((i : Nat) : Int)) (j := i) (by omega) (by omega)
  refine qt_v hS rfl rfl (fun W hB hS => run_indexAddr Tryz.underlying22 Tryz.sizeOf3 hS rfl rfl hA0 (by omega) (by omega)) fun a hS => qt_v hS rfl rfl (fun W hB hS => run_load_cell Tryz.isAgg3 hS rfl (hL0 _ hS.below)) fun a hS => qt_v hS rfl rfl (fun W hB hS => run_fieldAddr fa31_0 hS rfl) fun a hS => qt_v hS rfl rfl (fun W hB hS => run_load_one (i := 0) Tryz.isAgg3 hS rfl rfl rfl) fun a hS => qt_v hS rfl rfl (fun W hB hS => run_bin hS rfl rfl rfl) fun a hS => qt_v hS rfl rfl (fun W hB hS => run_move hS rfl) fun a hS => ?_
  refine st_split (d := 23) hS rfl (fun hc2 hS => ?_) (fun hc2 hS => ?_)
  ·
   try simp only [ty] at hc2
   refine qt_v hS (hS.wanted rfl rfl rfl) rfl (fun W hB hS => run_move hS rfl) fun a hS => qt_v hS (hS.wanted rfl rfl rfl) rfl (fun W hB hS => run_move hS rfl) fun a hS => ?_
   obtain ⟨ad1, hA1, hL1⟩ := sl_int Hl (Below.refl _ _) (i := ((i : Nat) : Int)) (j := i) (by omega) (by omega)
   refine qt_v hS (hS.wanted rfl rfl rfl) rfl (fun W hB hS => run_indexAddr Tryz.underlying22 Tryz.sizeOf3 hS rfl rfl hA1 (by omega) (by omega)) fun a hS => qt_v hS (hS.wanted rfl rfl rfl) rfl (fun W hB hS => run_load_cell Tryz.isAgg3 hS rfl (hL1 _ hS.below)) fun a hS => qt_v hS (hS.wanted rfl rfl rfl) rfl (fun W hB hS => run_fieldAddr fa31_1 hS rfl) fun a hS => qt_v hS (hS.wanted rfl rfl rfl) rfl (fun W hB hS => run_load_one (i := 0) Tryz.isAgg3 hS rfl rfl rfl) fun a hS => qt_v hS (hS.wanted rfl rfl rfl) rfl (fun W hB hS => run_bin hS rfl rfl rfl) fun a hS => qt_v hS rfl rfl (fun W hB hS => run_pick_t hS rfl rfl) fun a hS => qt_nil hS fun W hS => ?_
   refine st_cond hS rfl (fun hc3 => ?_) (fun hc3 => ?_)
   ·
    try simp only [ty] at hc3
    refine wpIn_region_lit ?_
    refine st_v hS rfl rfl (run_move hS rfl) fun a hS => st_v hS rfl rfl (run_move hS rfl) fun a hS => st_v hS rfl rfl (run_move hS rfl) fun a hS => ?_
    obtain ⟨ad2, hA2, hL2⟩ := sl_int Hl (Below.refl _ _) (i := ((i : Nat) : Int)) (j := i) (by omega) (by omega)
    refine st_v hS rfl rfl (run_indexAddr Tryz.underlying22 Tryz.sizeOf3 hS rfl rfl hA2 (by omega) (by omega)) fun a hS => st_v hS rfl rfl (run_load_cell Tryz.isAgg3 hS rfl (hL2 _ hS.below)) fun a hS => st_buildSlice (pv := [(0, .int .i64 _)]) (fun W => bs22_1_0 _ W) hS rfl rfl rfl fun W a b2 hS => st_append (l := [_, _]) (cs := cs) Tryz.underlying22 (AI.of ai3) (by decide) hS hO rfl rfl rfl rfl (src_own (sz := 1) Tryz.underlying22 hS (i := 0) rfl rfl rfl) (by omega) fun W a v3 cs3 hO3 hS => ?_
    have hO3' : OwnL eInt 1 v3 ((stopsI l p.lo p.hi i) ++ [ix l i]) cs3 := OwnL.app hO3 rfl rfl rfl rfl
    refine st_v hS rfl rfl (run_assign hS rfl) fun a hS => wl_nil ?_
    have hS := hS.sub (κ' := [(0, _), (1, _), (3, _), (4, _), (5, _), (6, _)]) (Sub.cons rfl (Sub.cons rfl (Sub.cons rfl (Sub.cons rfl (Sub.cons rfl (Sub.cons rfl Sub.nil))))))
    refine wpIn_region_lit ?_
    refine st_v hS rfl rfl (run_move hS rfl) fun a hS => st_v hS rfl rfl (run_add (t := ((i + 1 : Nat) : Int)) hS rfl rfl (by omega) (by omega) (by omega)) fun a hS => st_v hS rfl rfl (run_assign hS rfl) fun a hS => wl_nil ?_
    refine ⟨⟨i + 1, _, _⟩, ⟨⟨by omega, ?_⟩, by omega⟩, (hS.sub (Sub.cons rfl (Sub.cons rfl (Sub.cons rfl (Sub.cons rfl (Sub.cons rfl (Sub.cons rfl Sub.nil))))))).drop (List.Sublist.cons _ (List.Sublist.refl _))⟩
    rw [stopsI_on (by omega) (by omega) (by omega)]; assumption
   ·
    try simp only [ty] at hc3
    refine wpIn_skip ?_
    refine wpIn_region_lit ?_
    refine st_v hS rfl rfl (run_move hS rfl) fun a hS => st_v hS rfl rfl (run_add (t := ((i + 1 : Nat) : Int)) hS rfl rfl (by omega) (by omega) (by omega)) fun a hS => st_v hS rfl rfl (run_assign hS rfl) fun a hS => wl_nil ?_
    refine ⟨⟨i + 1, _, _⟩, ⟨⟨by omega, ?_⟩, by omega⟩, (hS.sub (Sub.cons rfl (Sub.cons rfl (Sub.cons rfl (Sub.cons rfl (Sub.cons rfl (Sub.cons rfl Sub.nil)))))))⟩
    rw [stopsI_off (by omega) (by omega)]; assumption
  ·
   try simp only [ty] at hc2
   refine qt_skip hS (hS.unwanted rfl rfl rfl rfl) rfl fun a hS => qt_skip hS (hS.unwanted rfl rfl rfl rfl) rfl fun a hS => qt_skip hS (hS.unwanted rfl rfl rfl rfl) rfl fun a hS => qt_skip hS (hS.unwanted rfl rfl rfl rfl) rfl fun a hS => qt_skip hS (hS.unwanted rfl rfl rfl rfl) rfl fun a hS => qt_skip hS (hS.unwanted rfl rfl rfl rfl) rfl fun a hS => qt_skip hS (hS.unwanted rfl rfl rfl rfl) rfl fun a hS => qt_v hS rfl rfl (fun W hB hS => run_pick_f hS rfl rfl) fun a hS => qt_nil hS fun W hS => ?_
   refine st_cond_f hS rfl ?_
   refine wpIn_skip ?_
   refine wpIn_region_lit ?_
   refine st_v hS rfl rfl (run_move hS rfl) fun a hS => st_v hS rfl rfl (run_add (t := ((i + 1 : Nat) : Int)) hS rfl rfl (by omega) (by omega) (by omega)) fun a hS => st_v hS rfl rfl (run_assign hS rfl) fun a hS => wl_nil ?_
   refine ⟨⟨i + 1, _, _⟩, ⟨⟨by omega, ?_⟩, by omega⟩, (hS.sub (Sub.cons rfl (Sub.cons rfl (Sub.cons rfl (Sub.cons rfl (Sub.cons rfl (Sub.cons rfl Sub.nil)))))))⟩
   rw [stopsI_off (by omega) (by omega)]; assumption
 ·
  try simp only [ty] at hc1
  refine wpIn_exit ?_
  refine wpIn_seq ?_
  refine wpIn_seq ?_
  refine wpIn_region_lit ?_
  refine st_v hS rfl rfl (run_fieldAddr fa31_1 hS rfl) fun a hS => st_v hS rfl rfl (run_load_one (i := 0) Tryz.isAgg3 hS rfl rfl rfl) fun a hS => st_v hS rfl rfl (run_fieldAddr fa31_0 hS rfl) fun a hS => st_v hS rfl rfl (run_load_one (i := 0) Tryz.isAgg3 hS rfl rfl rfl) fun a hS => st_v hS rfl rfl (run_bin hS rfl rfl rfl) fun a hS => wl_nil ?_
  refine st_cond hS rfl (fun hc4 => ?_) (fun hc4 => ?_)
  ·
   try simp only [ty] at hc4
   refine wpIn_region_lit ?_
   refine st_v hS rfl rfl (run_move hS rfl) fun a hS => st_v hS rfl rfl (run_fieldAddr fa31_1 hS rfl) fun a hS => st_v hS rfl rfl (run_load_one (i := 0) Tryz.isAgg3 hS rfl rfl rfl) fun a hS => st_buildSlice (pv := [(0, .int .i64 _)]) (fun W => bs22_1_0 _ W) hS rfl rfl rfl fun W a b3 hS => st_append (l := [_, _]) (cs := cs) Tryz.underlying22 (AI.of ai3) (by decide) hS hO rfl rfl rfl rfl (src_own (sz := 1) Tryz.underlying22 hS (i := 0) rfl rfl rfl) (by omega) fun W a v4 cs4 hO4 hS => ?_
   have hO4' : OwnL eInt 1 v4 ((stopsI l p.lo p.hi i) ++ [p.hi]) cs4 := OwnL.app hO4 rfl rfl rfl rfl
   refine st_v hS rfl rfl (run_assign hS rfl) fun a hS => wl_nil ?_
   refine wpIn_seq ?_
   refine wpIn_region_lit ?_
   refine st_v hS rfl rfl (run_move hS rfl) fun a hS => st_v hS rfl rfl (run_assign hS rfl) fun a hS => wl_nil ?_
   refine wpIn_ret ?_
   repeat (first | refine q_ret ?_ | refine q_block_ret ?_)
   refine hS.done (res1 (fn := Tryz.f246) (r1 := .tmp 4) rfl (rv_tmp hS rfl)) ?_
   rw [stopsI_end (i := i) (by omega), if_pos (by omega)]; exact OwnL.ints (l := [_, _]) hS (by assumption) (by simp only [List.length_append, List.length_cons, List.length_nil]; omega)
  ·
   try simp only [ty] at hc4
   refine wpIn_skip ?_
   refine wpIn_seq ?_
   refine wpIn_region_lit ?_
   refine st_v hS rfl rfl (run_move hS rfl) fun a hS => st_v hS rfl rfl (run_assign hS rfl) fun a hS => wl_nil ?_
   refine wpIn_ret ?_
   repeat (first | refine q_ret ?_ | refine q_block_ret ?_)
   refine hS.done (res1 (fn := Tryz.f246) (r1 := .tmp 4) rfl (rv_tmp hS rfl)) ?_
   rw [stopsI_end (i := i) (by omega), if_neg (by omega), List.append_nil]; exact OwnL.ints (l := [_]) hS (by assumption) (by omega)
set_option maxHeartbeats 2000000 in
set_option maxRecDepth 100000 in
theorem ref01_bound  (Vt : TV) (t : Tab) (p : Span) (q : Span) {w : World} {Ft : Nat → Prop} (ht : TabR Ft w Vt t) (hok : tabOk t = true) (hpok : p.ok = true) (hqok : q.ok = true) (hlies : liesT t p q = true) : Ret Tryz.prog 224 [.agg (tabC Vt t).toArray, .agg (spanC p).toArray, .agg (spanC q).toArray] w (fun v _ => v = .agg (spanC (bnd t p q)).toArray) := by
 refine ret_start (n := 80) Tryz.func224 rfl rfl rfl (fun a hS => ?_)
 have Ht : ∀ W, Below w.heap.size w W → TabR Ft W Vt t := fun W hb => ht.move (keep_of hb)
 have hmtx := ht.1.len
 have hmty := ht.2.1.len
 have hmtv := ht.2.2.len
 obtain ⟨hX, hY, hV, hR⟩ := tab_axes hok
 have hp1 := (Span.ok_iff p).1 hpok; have hq1 := (Span.ok_iff q).1 hqok
 have hon := on_of hpok hqok hlies
 simp only [liesT, lies, Bool.and_eq_true, decide_eq_true_eq] at hlies
 have hXm := hX.most; have hYm := hY.most
 have hxs := fun i hi => stops_on (l := t.X) (lo := p.lo) (hi := p.hi) (i := i) hp1.2.1 hlies.1.1 hlies.1.2 hi
 have hys := fun i hi => stops_on (l := t.Y) (lo := q.lo) (hi := q.hi) (i := i) hq1.2.1 hlies.2.1 hlies.2.2 hi
 have hx1 := stops_pos t.X p.lo p.hi; have hy1 := stops_pos t.Y q.lo q.hi
 have hxl := stops_len hXm p.lo p.hi; have hyl := stops_len hYm q.lo q.hi
 refine wpIn_seq ?_
 refine wpIn_region_lit ?_
 refine st_box_agg hS rfl rfl rfl fun W a b0 hS => st_box_agg hS rfl rfl rfl fun W a b1 hS => st_box_agg hS rfl rfl rfl fun W a b2 hS => st_alloc_agg Tryz.zeroValue31 hS rfl rfl fun W a b3 hS => wl_nil ?_
 refine wpIn_seq ?_
 have hlt0 := fun B hB => hS.lt (b := B) hB
 refine st_mix (k := 8) (by kernel_rfl) (by kernel_rfl) hS rfl rfl ?_
 refine mx_v (fun a W hS hB => run_fieldAddr fa25_0 hS rfl) <| mx_v (fun a W hS hB => run_load_one (i := 3) Tryz.isAgg22 hS rfl rfl rfl) <| mx_v (fun a W hS hB => run_load_all (i := 2) Tryz.isAgg31 Tryz.sizeOf31 hS rfl rfl rfl) <| mx_call_l (RSl kInt _ (stops t.X p.lo p.hi)) RSl.stable Tryz.call246 rfl (fun a W hS hB => RSl.of hB (by decide) (ref01_corners Vt.x t.X p ((fun W hC => (Ht W hC).1) _ hS.below) (by omega))) <| mx_v (fun a W hS hB => run_fieldAddr fa25_1 hS rfl) <| mx_v (fun a W hS hB => run_load_one (i := 3) Tryz.isAgg22 hS rfl rfl rfl) <| mx_v (fun a W hS hB => run_load_all (i := 1) Tryz.isAgg31 Tryz.sizeOf31 hS rfl rfl rfl) <| mx_call_l (RSl kInt _ (stops t.Y q.lo q.hi)) RSl.stable Tryz.call246 rfl (fun a W hS hB => RSl.of hB (by decide) (ref01_corners Vt.y t.Y q ((fun W hC => (Ht W hC).2.1) _ hS.below) (by omega))) <| ?_
 refine mx_end fun a W bs us hS hB hL => ?_
 dsimp only [kall, ball, List.cons_append, List.nil_append] at hS
 dsimp only [lall] at hL
 obtain ⟨hl0, hl4, _⟩ := hL
 obtain ⟨s0, e0, hs0⟩ := hl4
 rw [e0] at hS
 have hS := hS.moreSl hlt0 hs0
 obtain ⟨s1, e1, hs1⟩ := hl0
 rw [e1] at hS
 have hS := hS.moreSl hlt0 hs1
 refine st_v hS rfl rfl (run_assign hS rfl) fun a hS => st_v hS rfl rfl (run_assign hS rfl) fun a hS => wl_nil ?_
 refine wpIn_seq ?_
 refine st_draw (by kernel_rfl) (by kernel_rfl) hS ?_
 refine qt_v hS rfl rfl (fun W hB hS => run_load_all (i := 3) Tryz.isAgg25 Tryz.sizeOf25 hS rfl rfl rfl) fun a hS => qt_v hS rfl rfl (fun W hB hS => run_move hS rfl) fun a hS => ?_
 obtain ⟨ad2, hA2, hL2⟩ := sl_int (fun _ h => h) hS.now.1.2 (i := 0) (j := 0) (by omega) (by omega)
 refine qt_v hS rfl rfl (fun W hB hS => run_indexAddr Tryz.underlying22 Tryz.sizeOf3 hS rfl rfl hA2 (by omega) (by omega)) fun a hS => qt_v hS rfl rfl (fun W hB hS => run_load_cell Tryz.isAgg3 hS rfl (hL2 _ hS.now.1.2)) fun a hS => qt_v hS rfl rfl (fun W hB hS => run_move hS rfl) fun a hS => ?_
 obtain ⟨ad3, hA3, hL3⟩ := sl_int (fun _ h => h) hS.now.2 (i := 0) (j := 0) (by omega) (by omega)
 refine qt_v hS rfl rfl (fun W hB hS => run_indexAddr Tryz.underlying22 Tryz.sizeOf3 hS rfl rfl hA3 (by omega) (by omega)) fun a hS => qt_v hS rfl rfl (fun W hB hS => run_load_cell Tryz.isAgg3 hS rfl (hL3 _ hS.now.2)) fun a hS => qt_call hS rfl rfl Tryz.call247 rfl (fun W hB hS => ref01_Value Vt t (Ht _ hS.below) (by assumption) (by exact hxs _ (by omega)) (by exact hys _ (by omega))) fun a hS => qt_v hS rfl rfl (fun W hB hS => run_move hS rfl) fun a hS => qt_v hS rfl rfl (fun W hB hS => run_extract hS rfl rfl) fun a hS => qt_v hS rfl rfl (fun W hB hS => run_extract hS rfl rfl) fun a hS => qt_v hS rfl rfl (fun W hB hS => run_assign hS rfl) fun a hS => qt_v hS rfl rfl (fun W hB hS => run_assign hS rfl) fun a hS => qt_nil hS fun W hS => ?_
 refine wpIn_seq ?_
 refine wpIn_region_lit ?_
 refine st_v hS rfl rfl (run_move hS rfl) fun a hS => st_v hS rfl rfl (run_move hS rfl) fun a hS => st_call (ref01_floor (by have := cell_bd hok (hxs 0 (by omega)) (hys 0 (by omega)); omega) (by have := cell_bd hok (hxs 0 (by omega)) (hys 0 (by omega)); omega) (by have := cell_bd hok (hxs 0 (by omega)) (hys 0 (by omega)); omega)) Tryz.call238 hS rfl rfl rfl fun v W a hR hB hlt hS => ?_
 subst hR
 refine st_v hS rfl rfl (run_move hS rfl) fun a hS => st_v hS rfl rfl (run_move hS rfl) fun a hS => st_call (ref01_ceil (by have := cell_bd hok (hxs 0 (by omega)) (hys 0 (by omega)); omega) (by have := cell_bd hok (hxs 0 (by omega)) (hys 0 (by omega)); omega) (by have := cell_bd hok (hxs 0 (by omega)) (hys 0 (by omega)); omega)) Tryz.call239 hS rfl rfl rfl fun v W a hR hB hlt hS => ?_
 subst hR
 refine st_v hS rfl rfl (run_build (pv := [(0, .int .i64 _), (1, .int .i64 _)]) (fun W => bd31_0_1 _ _ W) hS rfl) fun a hS => st_alloc_agg Tryz.zeroValue31 hS rfl rfl fun W a b4 hS => st_store (i := 0) Tryz.sizeOf31 hS rfl rfl rfl rfl rfl rfl rfl rfl rfl fun W a hS => wl_nil ?_
 have hS := hS.sub (κ' := [(0, _), (1, _), (2, _), (3, _), (4, _), (5, _), (6, _), (7, _), (8, _), (9, _), (10, _), (11, _)]) (Sub.cons rfl (Sub.cons rfl (Sub.cons rfl (Sub.cons rfl (Sub.cons rfl (Sub.cons rfl (Sub.cons rfl (Sub.cons rfl (Sub.cons rfl (Sub.cons rfl (Sub.cons rfl (Sub.cons rfl Sub.nil))))))))))))
 refine wpIn_seq ?_
 refine wpIn_seq ?_
 refine wpIn_region_lit ?_
 refine st_v hS rfl rfl (run_assign hS rfl) fun a hS => wl_nil ?_
 refine wpIn_block ?_
 refine st_loop2 (α := Nat × Int × Int) (fun z => [(12, .int .i64 ((z.1 : Nat) : Int))]) [(0, _), (1, _), (2, _), (3, _), (4, _), (5, _), (6, _), (7, _), (8, _), (11, _)] (fun l z => setB (l) 0 [.int .i64 z.2.1, .int .i64 z.2.2]) (fun z => z.1 ≤ (stops t.X p.lo p.hi).length ∧ Least t p q (lowAt t) (· ≤ ·) z.1 0 z.2.1 ∧ Least t p q (highAt t) (· ≥ ·) z.1 0 z.2.2) (fun z => (stops t.X p.lo p.hi).length - z.1) (⟨0, (((⟨fl (num t (cellOf t.X (ix (stops t.X p.lo p.hi) (0))) (cellOf t.Y (ix (stops t.Y q.lo q.hi) (0))) (ix (stops t.X p.lo p.hi) (0)) (ix (stops t.Y q.lo q.hi) (0))) (den t (cellOf t.X (ix (stops t.X p.lo p.hi) (0))) (cellOf t.Y (ix (stops t.Y q.lo q.hi) (0)))), ce (num t (cellOf t.X (ix (stops t.X p.lo p.hi) (0))) (cellOf t.Y (ix (stops t.Y q.lo q.hi) (0))) (ix (stops t.X p.lo p.hi) (0)) (ix (stops t.Y q.lo q.hi) (0))) (den t (cellOf t.X (ix (stops t.X p.lo p.hi) (0))) (cellOf t.Y (ix (stops t.Y q.lo q.hi) (0))))⟩ : Span)).lo), (((⟨fl (num t (cellOf t.X (ix (stops t.X p.lo p.hi) (0))) (cellOf t.Y (ix (stops t.Y q.lo q.hi) (0))) (ix (stops t.X p.lo p.hi) (0)) (ix (stops t.Y q.lo q.hi) (0))) (den t (cellOf t.X (ix (stops t.X p.lo p.hi) (0))) (cellOf t.Y (ix (stops t.Y q.lo q.hi) (0)))), ce (num t (cellOf t.X (ix (stops t.X p.lo p.hi) (0))) (cellOf t.Y (ix (stops t.Y q.lo q.hi) (0))) (ix (stops t.X p.lo p.hi) (0)) (ix (stops t.Y q.lo q.hi) (0))) (den t (cellOf t.X (ix (stops t.X p.lo p.hi) (0))) (cellOf t.Y (ix (stops t.Y q.lo q.hi) (0))))⟩ : Span)).hi)⟩) hS (Sub.cons rfl (Sub.cons rfl (Sub.cons rfl (Sub.cons rfl (Sub.cons rfl (Sub.cons rfl (Sub.cons rfl (Sub.cons rfl (Sub.cons rfl (Sub.cons rfl (Sub.cons rfl Sub.nil))))))))))) rfl (by have hc := cell_low hok (hxs 0 (by omega)) (hys 0 (by omega)); exact ⟨Nat.zero_le _, by rw [hc.1]; exact Least.first, by rw [hc.2]; exact Least.first⟩) (fun z W a hφ hS => ?_)
 obtain ⟨i, m, M⟩ := z
 dsimp only [setB, List.cons_append, List.nil_append, List.take] at hS hφ
 obtain ⟨hi, hlo, hhi⟩ := hφ
 refine wpIn_seq ?_
 refine wpIn_seq ?_
 refine wpIn_region_lit ?_
 refine st_v hS rfl rfl (run_move hS rfl) fun a hS => st_v hS rfl rfl (run_move hS rfl) fun a hS => st_v hS rfl rfl (run_len_slice Tryz.underlying22 hS rfl) fun a hS => st_v hS rfl rfl (run_bin hS rfl rfl rfl) fun a hS => wl_nil ?_
 refine st_cond hS rfl (fun hc1 => ?_) (fun hc1 => ?_)
 ·
  try simp only [ty] at hc1
  refine wpIn_skip ?_
  refine wpIn_seq ?_
  refine wpIn_block ?_
  refine wpIn_seq ?_
  refine wpIn_region_lit ?_
  refine st_v hS rfl rfl (run_assign hS rfl) fun a hS => wl_nil ?_
  refine wpIn_block ?_
  refine st_loop2 (α := Nat × Int × Int) (fun y => [(13, .int .i64 ((y.1 : Nat) : Int))]) [(0, _), (1, _), (2, _), (3, _), (4, _), (5, _), (6, _), (7, _), (8, _), (11, _), (12, _)] (fun l y => setB (l) 0 [.int .i64 y.2.1, .int .i64 y.2.2]) (fun y => y.1 ≤ (stops t.Y q.lo q.hi).length ∧ Least t p q (lowAt t) (· ≤ ·) i y.1 y.2.1 ∧ Least t p q (highAt t) (· ≥ ·) i y.1 y.2.2) (fun y => (stops t.Y q.lo q.hi).length - y.1) (⟨0, m, M⟩) hS (Sub.cons rfl (Sub.cons rfl (Sub.cons rfl (Sub.cons rfl (Sub.cons rfl (Sub.cons rfl (Sub.cons rfl (Sub.cons rfl (Sub.cons rfl (Sub.cons rfl (Sub.cons rfl (Sub.cons rfl Sub.nil)))))))))))) rfl (⟨Nat.zero_le _, hlo, hhi⟩) (fun y W a hφ hS => ?_)
  obtain ⟨j, m', M'⟩ := y
  dsimp only [setB, List.cons_append, List.nil_append, List.take] at hS hφ
  obtain ⟨hj, hlo', hhi'⟩ := hφ
  refine wpIn_seq ?_
  refine wpIn_seq ?_
  refine wpIn_region_lit ?_
  refine st_v hS rfl rfl (run_move hS rfl) fun a hS => st_v hS rfl rfl (run_move hS rfl) fun a hS => st_v hS rfl rfl (run_len_slice Tryz.underlying22 hS rfl) fun a hS => st_v hS rfl rfl (run_bin hS rfl rfl rfl) fun a hS => wl_nil ?_
  refine st_cond hS rfl (fun hc2 => ?_) (fun hc2 => ?_)
  ·
   try simp only [ty] at hc2
   refine wpIn_skip ?_
   refine wpIn_seq ?_
   refine wpIn_block ?_
   refine wpIn_seq ?_
   have hlt0 := fun B hB => hS.lt (b := B) hB
   refine st_mix (k := 15) (by kernel_rfl) (by kernel_rfl) hS rfl rfl ?_
   refine mx_v (fun a W hS hB => run_load_all (i := 4) Tryz.isAgg25 Tryz.sizeOf25 hS rfl rfl rfl) <| mx_v (fun a W hS hB => run_move hS rfl) <| mx_v (fun a W hS hB => run_move hS rfl) <| ?_
   obtain ⟨ad4, hA4, hL4⟩ := sl_int (fun _ h => h) hS.now.1.2 (i := ((i : Nat) : Int)) (j := i) (by omega) (by omega)
   refine mx_v (fun a W hS hB => run_indexAddr Tryz.underlying22 Tryz.sizeOf3 hS rfl rfl hA4 (by omega) (by omega)) <| mx_v (fun a W hS hB => run_load_cell Tryz.isAgg3 hS rfl (hL4 _ hS.now.1.2)) <| mx_v (fun a W hS hB => run_move hS rfl) <| mx_v (fun a W hS hB => run_move hS rfl) <| ?_
   obtain ⟨ad5, hA5, hL5⟩ := sl_int (fun _ h => h) hS.now.2 (i := ((j : Nat) : Int)) (j := j) (by omega) (by omega)
   refine mx_v (fun a W hS hB => run_indexAddr Tryz.underlying22 Tryz.sizeOf3 hS rfl rfl hA5 (by omega) (by omega)) <| mx_v (fun a W hS hB => run_load_cell Tryz.isAgg3 hS rfl (hL5 _ hS.now.2)) <| mx_call Tryz.call247 rfl (fun a W hS hB => ref01_Value Vt t (Ht _ hS.below) (by assumption) (by exact hxs _ (by omega)) (by exact hys _ (by omega))) <| mx_v (fun a W hS hB => run_move hS rfl) <| mx_v (fun a W hS hB => run_extract hS rfl rfl) <| mx_v (fun a W hS hB => run_extract hS rfl rfl) <| mx_v (fun a W hS hB => run_assign hS rfl) <| mx_v (fun a W hS hB => run_assign hS rfl) <| ?_
   refine mx_end fun a W bs us hS hB hL => ?_
   dsimp only [kall, ball, List.cons_append, List.nil_append] at hS
   refine wl_nil ?_
   refine wpIn_seq ?_
   have hlt0 := fun B hB => hS.lt (b := B) hB
   refine st_mix (k := 7) (by kernel_rfl) (by kernel_rfl) hS rfl rfl ?_
   refine mx_v (fun a W hS hB => run_fieldAddr fa31_0 hS rfl) <| mx_v (fun a W hS hB => run_load_one (i := 0) Tryz.isAgg3 hS rfl rfl rfl) <| mx_v (fun a W hS hB => run_move hS rfl) <| mx_v (fun a W hS hB => run_move hS rfl) <| mx_call Tryz.call238 rfl (fun a W hS hB => ref01_floor (by have := cell_bd hok (hxs i (by omega)) (hys j (by omega)); omega) (by have := cell_bd hok (hxs i (by omega)) (hys j (by omega)); omega) (by have := cell_bd hok (hxs i (by omega)) (hys j (by omega)); omega)) <| mx_v (fun a W hS hB => run_min hS rfl rfl) <| mx_v (fun a W hS hB => run_fieldAddr fa31_0 hS rfl) <| ?_
   refine mx_end fun a W bs us hS hB hL => ?_
   dsimp only [kall, ball, List.cons_append, List.nil_append] at hS
   refine st_store (i := 0) Tryz.sizeOf3 hS rfl rfl rfl rfl rfl rfl rfl rfl rfl fun W a hS => wl_nil ?_
   have hlt0 := fun B hB => hS.lt (b := B) hB
   refine st_mix (k := 7) (by kernel_rfl) (by kernel_rfl) hS rfl rfl ?_
   refine mx_v (fun a W hS hB => run_fieldAddr fa31_1 hS rfl) <| mx_v (fun a W hS hB => run_load_one (i := 0) Tryz.isAgg3 hS rfl rfl rfl) <| mx_v (fun a W hS hB => run_move hS rfl) <| mx_v (fun a W hS hB => run_move hS rfl) <| mx_call Tryz.call239 rfl (fun a W hS hB => ref01_ceil (by have := cell_bd hok (hxs i (by omega)) (hys j (by omega)); omega) (by have := cell_bd hok (hxs i (by omega)) (hys j (by omega)); omega) (by have := cell_bd hok (hxs i (by omega)) (hys j (by omega)); omega)) <| mx_v (fun a W hS hB => run_max hS rfl rfl) <| mx_v (fun a W hS hB => run_fieldAddr fa31_1 hS rfl) <| ?_
   refine mx_end fun a W bs us hS hB hL => ?_
   dsimp only [kall, ball, List.cons_append, List.nil_append] at hS
   refine st_store (i := 0) Tryz.sizeOf3 hS rfl rfl rfl rfl rfl rfl rfl rfl rfl fun W a hS => wl_nil ?_
   have hS := hS.sub (κ' := [(0, _), (1, _), (2, _), (3, _), (4, _), (5, _), (6, _), (7, _), (8, _), (11, _), (12, _), (13, _), (9, _), (10, _), (78, _)]) (Sub.cons rfl (Sub.cons rfl (Sub.cons rfl (Sub.cons rfl (Sub.cons rfl (Sub.cons rfl (Sub.cons rfl (Sub.cons rfl (Sub.cons rfl (Sub.cons rfl (Sub.cons rfl (Sub.cons rfl (Sub.cons rfl (Sub.cons rfl (Sub.cons rfl Sub.nil)))))))))))))))
   refine wpIn_region_lit ?_
   refine st_v hS rfl rfl (run_move hS rfl) fun a hS => st_v hS rfl rfl (run_add (t := ((j + 1 : Nat) : Int)) hS rfl rfl (by omega) (by omega) (by omega)) fun a hS => st_v hS rfl rfl (run_assign hS rfl) fun a hS => wl_nil ?_
   refine ⟨⟨j + 1, (min2 m' (fl (num t (cellOf t.X (ix (stops t.X p.lo p.hi) (i))) (cellOf t.Y (ix (stops t.Y q.lo q.hi) (j))) (ix (stops t.X p.lo p.hi) (i)) (ix (stops t.Y q.lo q.hi) (j))) (den t (cellOf t.X (ix (stops t.X p.lo p.hi) (i))) (cellOf t.Y (ix (stops t.Y q.lo q.hi) (j)))))), (max2 M' (ce (num t (cellOf t.X (ix (stops t.X p.lo p.hi) (i))) (cellOf t.Y (ix (stops t.Y q.lo q.hi) (j))) (ix (stops t.X p.lo p.hi) (i)) (ix (stops t.Y q.lo q.hi) (j))) (den t (cellOf t.X (ix (stops t.X p.lo p.hi) (i))) (cellOf t.Y (ix (stops t.Y q.lo q.hi) (j))))))⟩, ⟨⟨by omega, ?_, ?_⟩, by omega⟩, (hS.sub (Sub.cons rfl (Sub.cons rfl (Sub.cons rfl (Sub.cons rfl (Sub.cons rfl (Sub.cons rfl (Sub.cons rfl (Sub.cons rfl (Sub.cons rfl (Sub.cons rfl (Sub.cons rfl (Sub.cons rfl Sub.nil)))))))))))))⟩
   · have hc := (cell_low hok (hxs i (by omega)) (hys j (by omega))).1
     have hm := Least.at_ (t := t) (p := p) (q := q) (f := lowAt t) (i := i) (j := j) (by omega) (by omega)
     dsimp only; rw [hc]; refine hlo'.next ?_ (fun x (hx : m' ≤ x) => ?_) ?_ <;> (try dsimp only) <;> unfold min2 <;> split <;> first | exact hm | exact hlo'.mem | omega
   · have hc := (cell_low hok (hxs i (by omega)) (hys j (by omega))).2
     have hm := Least.at_ (t := t) (p := p) (q := q) (f := highAt t) (i := i) (j := j) (by omega) (by omega)
     dsimp only; rw [hc]; refine hhi'.next ?_ (fun x (hx : M' ≥ x) => ?_) ?_ <;> (try dsimp only) <;> unfold max2 <;> split <;> first | exact hm | exact hhi'.mem | omega
  ·
   try simp only [ty] at hc2
   refine wpIn_exit ?_
   refine wpIn_region_lit ?_
   refine st_v hS rfl rfl (run_move hS rfl) fun a hS => st_v hS rfl rfl (run_add (t := ((i + 1 : Nat) : Int)) hS rfl rfl (by omega) (by omega) (by omega)) fun a hS => st_v hS rfl rfl (run_assign hS rfl) fun a hS => wl_nil ?_
   refine ⟨⟨i + 1, m', M'⟩, ⟨⟨by omega, hlo'.row0 (by omega), hhi'.row0 (by omega)⟩, by omega⟩, (hS.sub (Sub.cons rfl (Sub.cons rfl (Sub.cons rfl (Sub.cons rfl (Sub.cons rfl (Sub.cons rfl (Sub.cons rfl (Sub.cons rfl (Sub.cons rfl (Sub.cons rfl (Sub.cons rfl Sub.nil))))))))))))⟩
 ·
  try simp only [ty] at hc1
  refine wpIn_exit ?_
  refine wpIn_seq ?_
  refine wpIn_region_lit ?_
  refine st_v hS rfl rfl (run_load_all (i := 0) Tryz.isAgg31 Tryz.sizeOf31 hS rfl rfl rfl) fun a hS => st_store (i := 1) Tryz.sizeOf31 hS rfl rfl rfl rfl rfl rfl rfl rfl rfl fun W a hS => wl_nil ?_
  refine wpIn_ret ?_
  repeat (first | refine q_ret ?_ | refine q_block_ret ?_)
  refine hS.done (res1 (fn := Tryz.f224) (r1 := .cell 6 31) rfl (rv_agg (i := 1) Tryz.isAgg31 Tryz.sizeOf31 hS rfl rfl rfl)) ?_
  rw [show bnd t p q = ⟨m, M⟩ from by unfold bnd; rw [hlo.low (by omega), hhi.high (by omega)]]; rfl
set_option maxHeartbeats 2000000 in
set_option maxRecDepth 100000 in
theorem ref01_Bound  (Vt : TV) (t : Tab) (p : Span) (q : Span) {w : World} {Ft : Nat → Prop} (ht : TabR Ft w Vt t)  : Ret Tryz.prog 185 [.agg (tabC Vt t).toArray, .agg (spanC p).toArray, .agg (spanC q).toArray] w (fun v _ => v = .tuple #[.agg (spanC (if (if tabOk t then (if p.ok && q.ok then (if liesT t p q then 0 else 1) else 10) else 11) = (0 : Int) then bnd t p q else ⟨0, 0⟩)).toArray, .int .i64 (if tabOk t then (if p.ok && q.ok then (if liesT t p q then 0 else 1) else 10) else 11)]) := by
 refine ret_start (n := 21) Tryz.func185 rfl rfl rfl (fun a hS => ?_)
 have Ht : ∀ W, Below w.heap.size w W → TabR Ft W Vt t := fun W hb => ht.move (keep_of hb)
 have hmtx := ht.1.len
 have hmty := ht.2.1.len
 have hmtv := ht.2.2.len
 refine wpIn_seq ?_
 refine wpIn_region_lit ?_
 refine st_box_agg hS rfl rfl rfl fun W a b0 hS => st_box_agg hS rfl rfl rfl fun W a b1 hS => st_box_agg hS rfl rfl rfl fun W a b2 hS => st_alloc_agg Tryz.zeroValue31 hS rfl rfl fun W a b3 hS => st_v hS rfl rfl (run_assign hS rfl) fun a hS => wl_nil ?_
 refine wpIn_seq ?_
 refine wpIn_region_lit ?_
 refine st_v hS rfl rfl (run_load_all (i := 3) Tryz.isAgg25 Tryz.sizeOf25 hS rfl rfl rfl) fun a hS => st_v hS rfl rfl (run_load_all (i := 2) Tryz.isAgg31 Tryz.sizeOf31 hS rfl rfl rfl) fun a hS => st_v hS rfl rfl (run_load_all (i := 1) Tryz.isAgg31 Tryz.sizeOf31 hS rfl rfl rfl) fun a hS => st_call (ref01_CheckBound Vt t p q (Ht _ hS.below)) Tryz.call223 hS rfl rfl rfl fun v W a hR hB hlt hS => ?_
 subst hR
 refine st_v hS rfl rfl (run_assign hS rfl) fun a hS => wl_nil ?_
 refine wpIn_seq ?_
 refine wpIn_seq ?_
 refine wpIn_region_lit ?_
 refine st_v hS rfl rfl (run_move hS rfl) fun a hS => st_v hS rfl rfl (run_bin hS rfl rfl rfl) fun a hS => wl_nil ?_
 refine st_cond hS rfl (fun hc1 => ?_) (fun hc1 => ?_)
 ·
  try simp only [ty] at hc1
  refine wpIn_seq ?_
  refine wpIn_region_lit ?_
  refine st_v hS rfl rfl (run_build (pv := []) (fun W => bd31_ W) hS rfl) fun a hS => st_v hS rfl rfl (run_move hS rfl) fun a hS => st_store (i := 0) Tryz.sizeOf31 hS rfl rfl rfl rfl rfl rfl rfl rfl rfl fun W a hS => st_v hS rfl rfl (run_assign hS rfl) fun a hS => wl_nil ?_
  refine wpIn_ret ?_
  repeat (first | refine q_ret ?_ | refine q_block_ret ?_)
  refine hS.done (res2 (fn := Tryz.f185) (r1 := .cell 6 31) (r2 := .tmp 7) rfl (rv_agg (i := 0) Tryz.isAgg31 Tryz.sizeOf31 hS rfl rfl rfl) (rv_tmp hS rfl)) ?_
  rw [if_neg hc1]; rfl
 ·
  try simp only [ty] at hc1
  have hok : tabOk t = true := by
    cases h : tabOk t <;> simp [h] at hc1 ⊢
  have hpq : (p.ok && q.ok) = true := by
    cases h : (p.ok && q.ok) <;> simp [hok, h] at hc1 ⊢
  rw [Bool.and_eq_true] at hpq
  obtain ⟨hpok, hqok⟩ := hpq
  have hlies : liesT t p q = true := by
    cases h : liesT t p q <;> simp [hok, hpok, hqok, h] at hc1 ⊢
  refine wpIn_skip ?_
  refine wpIn_seq ?_
  refine wpIn_region_lit ?_
  refine st_v hS rfl rfl (run_load_all (i := 3) Tryz.isAgg25 Tryz.sizeOf25 hS rfl rfl rfl) fun a hS => st_v hS rfl rfl (run_load_all (i := 2) Tryz.isAgg31 Tryz.sizeOf31 hS rfl rfl rfl) fun a hS => st_v hS rfl rfl (run_load_all (i := 1) Tryz.isAgg31 Tryz.sizeOf31 hS rfl rfl rfl) fun a hS => st_call (ref01_bound Vt t p q (Ht _ hS.below) (by assumption) (by assumption) (by assumption) (by assumption)) Tryz.call224 hS rfl rfl rfl fun v W a hR hB hlt hS => ?_
  subst hR
  refine st_store (i := 0) Tryz.sizeOf31 hS rfl rfl rfl rfl rfl rfl rfl rfl rfl fun W a hS => st_v hS rfl rfl (run_assign hS rfl) fun a hS => wl_nil ?_
  refine wpIn_ret ?_
  repeat (first | refine q_ret ?_ | refine q_block_ret ?_)
  refine hS.done (res2 (fn := Tryz.f185) (r1 := .cell 6 31) (r2 := .tmp 7) rfl (rv_agg (i := 0) Tryz.isAgg31 Tryz.sizeOf31 hS rfl rfl rfl) (rv_tmp hS rfl)) ?_
  rw [if_pos hc1, hc1]; rfl
end Go.Proofs.YtdnodlgebpnfoaaGreat
