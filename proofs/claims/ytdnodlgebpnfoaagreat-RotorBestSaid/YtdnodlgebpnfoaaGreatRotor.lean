/- The program's functions of rotors, walked. -/
import Derived.Test.YtdnodlgebpnfoaaGreatCopies
namespace Go.Proofs.YtdnodlgebpnfoaaGreat
open Go Go.RowKit Go.Shelf Sw
set_option linter.unusedVariables false
set_option linter.unusedSimpArgs false

set_option maxHeartbeats 2000000 in
set_option maxRecDepth 100000 in
theorem rotor_valid  (p : Span) {w : World}   : Ret Tryz.prog 82 [.agg (spanC p).toArray] w (fun v _ => v = .bool p.ok) := by
 refine ret_start (n := 7) Tryz.func82 rfl rfl rfl (fun a hS => ?_)
 refine wpIn_seq ?_
 refine wpIn_region_lit ?_
 refine st_box_agg hS rfl rfl rfl fun W a b0 hS => st_v hS rfl rfl (run_assign hS rfl) fun a hS => wl_nil ?_
 refine wpIn_seq ?_
 refine wpIn_region_lit ?_
 refine st_v hS rfl rfl (run_load_all (i := 0) Tryz.isAgg31 Tryz.sizeOf31 hS rfl rfl rfl) fun a hS => st_buildSlice (pv := [(0, .agg #[.int .i64 _, .int .i64 _])]) (fun W => bs62_1_0 _ _ W) hS rfl rfl rfl fun W a b1 hS => st_call (spans_Check (⟨some ⟨b1, 0, none⟩, 1⟩ : SV) [p] (own_sl_of (dk := kSpan) (enc := spanC) (xs := [p]) (fun _ _ _ => rfl) hS (i := 0) rfl (Nat.le_of_ble_eq_true rfl))) Tryz.call159 hS rfl rfl rfl fun v W a hR hB hlt hS => ?_
 subst hR
 refine st_v hS rfl rfl (run_bin hS rfl rfl rfl) fun a hS => st_v hS rfl rfl (run_assign hS rfl) fun a hS => wl_nil ?_
 refine wpIn_ret ?_
 repeat (first | refine q_ret ?_ | refine q_block_ret ?_)
 refine hS.done (res1 (fn := Tryz.f82) (r1 := .tmp 2) rfl (rv_tmp hS rfl)) ?_
 refine vb ?_; simp [within]


set_option maxHeartbeats 2000000 in
set_option maxRecDepth 100000 in
theorem rotor_chk1  (p : Span) {w : World}   : Ret Tryz.prog 156 [.agg (spanC p).toArray] w (fun v _ => v = .bool (!(p.ok))) := by
 refine ret_start (n := 6) Tryz.func156 rfl rfl rfl (fun a hS => ?_)
 refine wpIn_seq ?_
 refine wpIn_region_lit ?_
 refine st_box_agg hS rfl rfl rfl fun W a b0 hS => st_v hS rfl rfl (run_assign hS rfl) fun a hS => wl_nil ?_
 refine wpIn_seq ?_
 refine wpIn_region_lit ?_
 refine st_v hS rfl rfl (run_load_all (i := 0) Tryz.isAgg31 Tryz.sizeOf31 hS rfl rfl rfl) fun a hS => st_call (rotor_valid p) Tryz.call82 hS rfl rfl rfl fun v W a hR hB hlt hS => ?_
 subst hR
 refine st_v hS rfl rfl (run_not hS rfl) fun a hS => st_v hS rfl rfl (run_assign hS rfl) fun a hS => wl_nil ?_
 refine wpIn_ret ?_
 repeat (first | refine q_ret ?_ | refine q_block_ret ?_)
 refine hS.done (res1 (fn := Tryz.f156) (r1 := .tmp 2) rfl (rv_tmp hS rfl)) ?_
 rfl


set_option maxHeartbeats 2000000 in
set_option maxRecDepth 100000 in
theorem rotor_lies  (x : LookV) {w : World} {Fx : Nat → Prop} (hx : TabR Fx w x.V x.t) (hok : tabOk x.t = true) : Ret Tryz.prog 83 [.agg (lookC x).toArray] w (fun v _ => v = .bool (liesT x.t x.p x.q)) := by
 refine ret_start (n := 55) Tryz.func83 rfl rfl rfl (fun a hS => ?_)
 have Hx : ∀ W, Below w.heap.size w W → TabR Fx W x.V x.t := fun W hb => hx.move (keep_of hb)
 have hmxx := hx.1.len
 have hmxy := hx.2.1.len
 have hmxv := hx.2.2.len
 obtain ⟨hX, hY, _, _⟩ := tab_axes hok
 have h2 := hX.two; have h3 := hY.two
 refine wpIn_seq ?_
 refine wpIn_region_lit ?_
 refine st_box_agg hS rfl rfl rfl fun W a b0 hS => st_v hS rfl rfl (run_assign hS rfl) fun a hS => wl_nil ?_
 refine wpIn_seq ?_
 refine st_draw (by kernel_rfl) (by kernel_rfl) hS ?_
 refine qt_v hS rfl rfl (fun W hB hS => run_fieldAddr fa122_1 hS rfl) fun a hS => qt_v hS rfl rfl (fun W hB hS => run_fieldAddr fa31_0 hS rfl) fun a hS => qt_v hS rfl rfl (fun W hB hS => run_load_one (i := 0) Tryz.isAgg3 hS rfl rfl rfl) fun a hS => qt_v hS rfl rfl (fun W hB hS => run_fieldAddr fa122_0 hS rfl) fun a hS => qt_v hS rfl rfl (fun W hB hS => run_fieldAddr fa25_0 hS rfl) fun a hS => qt_v hS rfl rfl (fun W hB hS => run_load_one (i := 0) Tryz.isAgg22 hS rfl rfl rfl) fun a hS => ?_
 obtain ⟨ad0, hA0, hL0⟩ := sl_int (fun W hC => (Hx W hC).1) (Below.refl _ _) (i := 0) (j := 0) (by omega) (by omega)
 refine qt_v hS rfl rfl (fun W hB hS => run_indexAddr Tryz.underlying22 Tryz.sizeOf3 hS rfl rfl hA0 (by omega) (by omega)) fun a hS => qt_v hS rfl rfl (fun W hB hS => run_load_cell Tryz.isAgg3 hS rfl (hL0 _ hS.below)) fun a hS => qt_v hS rfl rfl (fun W hB hS => run_bin hS rfl rfl rfl) fun a hS => qt_v hS rfl rfl (fun W hB hS => run_move hS rfl) fun a hS => ?_
 refine st_split (d := 12) hS rfl (fun hc1 hS => ?_) (fun hc1 hS => ?_)
 ·
  try simp only [ty] at hc1
  refine qt_v hS (hS.wanted rfl rfl rfl) rfl (fun W hB hS => run_fieldAddr fa122_1 hS rfl) fun a hS => qt_v hS (hS.wanted rfl rfl rfl) rfl (fun W hB hS => run_fieldAddr fa31_1 hS rfl) fun a hS => qt_v hS (hS.wanted rfl rfl rfl) rfl (fun W hB hS => run_load_one (i := 0) Tryz.isAgg3 hS rfl rfl rfl) fun a hS => qt_v hS (hS.wanted rfl rfl rfl) rfl (fun W hB hS => run_fieldAddr fa122_0 hS rfl) fun a hS => qt_v hS (hS.wanted rfl rfl rfl) rfl (fun W hB hS => run_fieldAddr fa25_0 hS rfl) fun a hS => qt_v hS (hS.wanted rfl rfl rfl) rfl (fun W hB hS => run_load_one (i := 0) Tryz.isAgg22 hS rfl rfl rfl) fun a hS => qt_v hS (hS.wanted rfl rfl rfl) rfl (fun W hB hS => run_fieldAddr fa122_0 hS rfl) fun a hS => qt_v hS (hS.wanted rfl rfl rfl) rfl (fun W hB hS => run_fieldAddr fa25_0 hS rfl) fun a hS => qt_v hS (hS.wanted rfl rfl rfl) rfl (fun W hB hS => run_load_one (i := 0) Tryz.isAgg22 hS rfl rfl rfl) fun a hS => qt_v hS (hS.wanted rfl rfl rfl) rfl (fun W hB hS => run_len_slice Tryz.underlying22 hS rfl) fun a hS => qt_v hS (hS.wanted rfl rfl rfl) rfl (fun W hB hS => run_sub (t := ((x.t.X.length - 1 : Nat) : Int)) hS rfl rfl (by omega) (by omega) (by omega)) fun a hS => ?_
  obtain ⟨ad1, hA1, hL1⟩ := sl_int (fun W hC => (Hx W hC).1) (Below.refl _ _) (i := ((x.t.X.length - 1 : Nat) : Int)) (j := x.t.X.length - 1) (by omega) (by omega)
  refine qt_v hS (hS.wanted rfl rfl rfl) rfl (fun W hB hS => run_indexAddr Tryz.underlying22 Tryz.sizeOf3 hS rfl rfl hA1 (by omega) (by omega)) fun a hS => qt_v hS (hS.wanted rfl rfl rfl) rfl (fun W hB hS => run_load_cell Tryz.isAgg3 hS rfl (hL1 _ hS.below)) fun a hS => qt_v hS (hS.wanted rfl rfl rfl) rfl (fun W hB hS => run_bin hS rfl rfl rfl) fun a hS => qt_v hS rfl rfl (fun W hB hS => run_pick_t hS rfl rfl) fun a hS => qt_v hS rfl rfl (fun W hB hS => run_move hS rfl) fun a hS => ?_
  refine st_split (d := 28) hS rfl (fun hc2 hS => ?_) (fun hc2 hS => ?_)
  ·
   try simp only [ty] at hc2
   refine qt_v hS (hS.wanted rfl rfl rfl) rfl (fun W hB hS => run_fieldAddr fa122_2 hS rfl) fun a hS => qt_v hS (hS.wanted rfl rfl rfl) rfl (fun W hB hS => run_fieldAddr fa31_0 hS rfl) fun a hS => qt_v hS (hS.wanted rfl rfl rfl) rfl (fun W hB hS => run_load_one (i := 0) Tryz.isAgg3 hS rfl rfl rfl) fun a hS => qt_v hS (hS.wanted rfl rfl rfl) rfl (fun W hB hS => run_fieldAddr fa122_0 hS rfl) fun a hS => qt_v hS (hS.wanted rfl rfl rfl) rfl (fun W hB hS => run_fieldAddr fa25_1 hS rfl) fun a hS => qt_v hS (hS.wanted rfl rfl rfl) rfl (fun W hB hS => run_load_one (i := 0) Tryz.isAgg22 hS rfl rfl rfl) fun a hS => ?_
   obtain ⟨ad2, hA2, hL2⟩ := sl_int (fun W hC => (Hx W hC).2.1) (Below.refl _ _) (i := 0) (j := 0) (by omega) (by omega)
   refine qt_v hS (hS.wanted rfl rfl rfl) rfl (fun W hB hS => run_indexAddr Tryz.underlying22 Tryz.sizeOf3 hS rfl rfl hA2 (by omega) (by omega)) fun a hS => qt_v hS (hS.wanted rfl rfl rfl) rfl (fun W hB hS => run_load_cell Tryz.isAgg3 hS rfl (hL2 _ hS.below)) fun a hS => qt_v hS (hS.wanted rfl rfl rfl) rfl (fun W hB hS => run_bin hS rfl rfl rfl) fun a hS => qt_v hS rfl rfl (fun W hB hS => run_pick_t hS rfl rfl) fun a hS => qt_v hS rfl rfl (fun W hB hS => run_move hS rfl) fun a hS => ?_
   refine st_split (d := 39) hS rfl (fun hc3 hS => ?_) (fun hc3 hS => ?_)
   ·
    try simp only [ty] at hc3
    refine qt_v hS (hS.wanted rfl rfl rfl) rfl (fun W hB hS => run_fieldAddr fa122_2 hS rfl) fun a hS => qt_v hS (hS.wanted rfl rfl rfl) rfl (fun W hB hS => run_fieldAddr fa31_1 hS rfl) fun a hS => qt_v hS (hS.wanted rfl rfl rfl) rfl (fun W hB hS => run_load_one (i := 0) Tryz.isAgg3 hS rfl rfl rfl) fun a hS => qt_v hS (hS.wanted rfl rfl rfl) rfl (fun W hB hS => run_fieldAddr fa122_0 hS rfl) fun a hS => qt_v hS (hS.wanted rfl rfl rfl) rfl (fun W hB hS => run_fieldAddr fa25_1 hS rfl) fun a hS => qt_v hS (hS.wanted rfl rfl rfl) rfl (fun W hB hS => run_load_one (i := 0) Tryz.isAgg22 hS rfl rfl rfl) fun a hS => qt_v hS (hS.wanted rfl rfl rfl) rfl (fun W hB hS => run_fieldAddr fa122_0 hS rfl) fun a hS => qt_v hS (hS.wanted rfl rfl rfl) rfl (fun W hB hS => run_fieldAddr fa25_1 hS rfl) fun a hS => qt_v hS (hS.wanted rfl rfl rfl) rfl (fun W hB hS => run_load_one (i := 0) Tryz.isAgg22 hS rfl rfl rfl) fun a hS => qt_v hS (hS.wanted rfl rfl rfl) rfl (fun W hB hS => run_len_slice Tryz.underlying22 hS rfl) fun a hS => qt_v hS (hS.wanted rfl rfl rfl) rfl (fun W hB hS => run_sub (t := ((x.t.Y.length - 1 : Nat) : Int)) hS rfl rfl (by omega) (by omega) (by omega)) fun a hS => ?_
    obtain ⟨ad3, hA3, hL3⟩ := sl_int (fun W hC => (Hx W hC).2.1) (Below.refl _ _) (i := ((x.t.Y.length - 1 : Nat) : Int)) (j := x.t.Y.length - 1) (by omega) (by omega)
    refine qt_v hS (hS.wanted rfl rfl rfl) rfl (fun W hB hS => run_indexAddr Tryz.underlying22 Tryz.sizeOf3 hS rfl rfl hA3 (by omega) (by omega)) fun a hS => qt_v hS (hS.wanted rfl rfl rfl) rfl (fun W hB hS => run_load_cell Tryz.isAgg3 hS rfl (hL3 _ hS.below)) fun a hS => qt_v hS (hS.wanted rfl rfl rfl) rfl (fun W hB hS => run_bin hS rfl rfl rfl) fun a hS => qt_v hS rfl rfl (fun W hB hS => run_pick_t hS rfl rfl) fun a hS => qt_v hS rfl rfl (fun W hB hS => run_assign hS rfl) fun a hS => qt_nil hS fun W hS => ?_
    have hS := hS.sub (κ' := [(0, _), (1, _), (2, _)]) (Sub.cons rfl (Sub.cons rfl (Sub.cons rfl Sub.nil)))
    refine wpIn_ret ?_
    repeat (first | refine q_ret ?_ | refine q_block_ret ?_)
    refine hS.done (res1 (fn := Tryz.f83) (r1 := .tmp 2) rfl (rv_tmp hS rfl)) ?_
    refine vb ?_; simp only [liesT, lies, Bool.and_eq_true, decide_eq_true_eq, Bool.false_eq_true, false_iff, true_iff]; unfold lastOf; omega
   ·
    try simp only [ty] at hc3
    refine qt_skip hS (hS.unwanted rfl rfl rfl rfl) rfl fun a hS => qt_skip hS (hS.unwanted rfl rfl rfl rfl) rfl fun a hS => qt_skip hS (hS.unwanted rfl rfl rfl rfl) rfl fun a hS => qt_skip hS (hS.unwanted rfl rfl rfl rfl) rfl fun a hS => qt_skip hS (hS.unwanted rfl rfl rfl rfl) rfl fun a hS => qt_skip hS (hS.unwanted rfl rfl rfl rfl) rfl fun a hS => qt_skip hS (hS.unwanted rfl rfl rfl rfl) rfl fun a hS => qt_skip hS (hS.unwanted rfl rfl rfl rfl) rfl fun a hS => qt_skip hS (hS.unwanted rfl rfl rfl rfl) rfl fun a hS => qt_skip hS (hS.unwanted rfl rfl rfl rfl) rfl fun a hS => qt_skip hS (hS.unwanted rfl rfl rfl rfl) rfl fun a hS => qt_skip hS (hS.unwanted rfl rfl rfl rfl) rfl fun a hS => qt_skip hS (hS.unwanted rfl rfl rfl rfl) rfl fun a hS => qt_skip hS (hS.unwanted rfl rfl rfl rfl) rfl fun a hS => qt_v hS rfl rfl (fun W hB hS => run_pick_f hS rfl rfl) fun a hS => qt_v hS rfl rfl (fun W hB hS => run_assign hS rfl) fun a hS => qt_nil hS fun W hS => ?_
    have hS := hS.sub (κ' := [(0, _), (1, _), (2, _)]) (Sub.cons rfl (Sub.cons rfl (Sub.cons rfl Sub.nil)))
    refine wpIn_ret ?_
    repeat (first | refine q_ret ?_ | refine q_block_ret ?_)
    refine hS.done (res1 (fn := Tryz.f83) (r1 := .tmp 2) rfl (rv_tmp hS rfl)) ?_
    refine vb ?_; simp only [liesT, lies, Bool.and_eq_true, decide_eq_true_eq, Bool.false_eq_true, false_iff, true_iff]; unfold lastOf; omega
  ·
   try simp only [ty] at hc2
   refine qt_skip hS (hS.unwanted rfl rfl rfl rfl) rfl fun a hS => qt_skip hS (hS.unwanted rfl rfl rfl rfl) rfl fun a hS => qt_skip hS (hS.unwanted rfl rfl rfl rfl) rfl fun a hS => qt_skip hS (hS.unwanted rfl rfl rfl rfl) rfl fun a hS => qt_skip hS (hS.unwanted rfl rfl rfl rfl) rfl fun a hS => qt_skip hS (hS.unwanted rfl rfl rfl rfl) rfl fun a hS => qt_skip hS (hS.unwanted rfl rfl rfl rfl) rfl fun a hS => qt_skip hS (hS.unwanted rfl rfl rfl rfl) rfl fun a hS => qt_skip hS (hS.unwanted rfl rfl rfl rfl) rfl fun a hS => qt_v hS rfl rfl (fun W hB hS => run_pick_f hS rfl rfl) fun a hS => qt_v hS rfl rfl (fun W hB hS => run_move hS rfl) fun a hS => qt_skip hS (hS.unwanted rfl rfl rfl rfl) rfl fun a hS => qt_skip hS (hS.unwanted rfl rfl rfl rfl) rfl fun a hS => qt_skip hS (hS.unwanted rfl rfl rfl rfl) rfl fun a hS => qt_skip hS (hS.unwanted rfl rfl rfl rfl) rfl fun a hS => qt_skip hS (hS.unwanted rfl rfl rfl rfl) rfl fun a hS => qt_skip hS (hS.unwanted rfl rfl rfl rfl) rfl fun a hS => qt_skip hS (hS.unwanted rfl rfl rfl rfl) rfl fun a hS => qt_skip hS (hS.unwanted rfl rfl rfl rfl) rfl fun a hS => qt_skip hS (hS.unwanted rfl rfl rfl rfl) rfl fun a hS => qt_skip hS (hS.unwanted rfl rfl rfl rfl) rfl fun a hS => qt_skip hS (hS.unwanted rfl rfl rfl rfl) rfl fun a hS => qt_skip hS (hS.unwanted rfl rfl rfl rfl) rfl fun a hS => qt_skip hS (hS.unwanted rfl rfl rfl rfl) rfl fun a hS => qt_skip hS (hS.unwanted rfl rfl rfl rfl) rfl fun a hS => qt_v hS rfl rfl (fun W hB hS => run_pick_f hS rfl rfl) fun a hS => qt_v hS rfl rfl (fun W hB hS => run_assign hS rfl) fun a hS => qt_nil hS fun W hS => ?_
   have hS := hS.sub (κ' := [(0, _), (1, _), (2, _)]) (Sub.cons rfl (Sub.cons rfl (Sub.cons rfl Sub.nil)))
   refine wpIn_ret ?_
   repeat (first | refine q_ret ?_ | refine q_block_ret ?_)
   refine hS.done (res1 (fn := Tryz.f83) (r1 := .tmp 2) rfl (rv_tmp hS rfl)) ?_
   refine vb ?_; simp only [liesT, lies, Bool.and_eq_true, decide_eq_true_eq, Bool.false_eq_true, false_iff, true_iff]; unfold lastOf; omega
 ·
  try simp only [ty] at hc1
  refine qt_skip hS (hS.unwanted rfl rfl rfl rfl) rfl fun a hS => qt_skip hS (hS.unwanted rfl rfl rfl rfl) rfl fun a hS => qt_skip hS (hS.unwanted rfl rfl rfl rfl) rfl fun a hS => qt_skip hS (hS.unwanted rfl rfl rfl rfl) rfl fun a hS => qt_skip hS (hS.unwanted rfl rfl rfl rfl) rfl fun a hS => qt_skip hS (hS.unwanted rfl rfl rfl rfl) rfl fun a hS => qt_skip hS (hS.unwanted rfl rfl rfl rfl) rfl fun a hS => qt_skip hS (hS.unwanted rfl rfl rfl rfl) rfl fun a hS => qt_skip hS (hS.unwanted rfl rfl rfl rfl) rfl fun a hS => qt_skip hS (hS.unwanted rfl rfl rfl rfl) rfl fun a hS => qt_skip hS (hS.unwanted rfl rfl rfl rfl) rfl fun a hS => qt_skip hS (hS.unwanted rfl rfl rfl rfl) rfl fun a hS => qt_skip hS (hS.unwanted rfl rfl rfl rfl) rfl fun a hS => qt_skip hS (hS.unwanted rfl rfl rfl rfl) rfl fun a hS => qt_v hS rfl rfl (fun W hB hS => run_pick_f hS rfl rfl) fun a hS => qt_v hS rfl rfl (fun W hB hS => run_move hS rfl) fun a hS => qt_skip hS (hS.unwanted rfl rfl rfl rfl) rfl fun a hS => qt_skip hS (hS.unwanted rfl rfl rfl rfl) rfl fun a hS => qt_skip hS (hS.unwanted rfl rfl rfl rfl) rfl fun a hS => qt_skip hS (hS.unwanted rfl rfl rfl rfl) rfl fun a hS => qt_skip hS (hS.unwanted rfl rfl rfl rfl) rfl fun a hS => qt_skip hS (hS.unwanted rfl rfl rfl rfl) rfl fun a hS => qt_skip hS (hS.unwanted rfl rfl rfl rfl) rfl fun a hS => qt_skip hS (hS.unwanted rfl rfl rfl rfl) rfl fun a hS => qt_skip hS (hS.unwanted rfl rfl rfl rfl) rfl fun a hS => qt_v hS rfl rfl (fun W hB hS => run_pick_f hS rfl rfl) fun a hS => qt_v hS rfl rfl (fun W hB hS => run_move hS rfl) fun a hS => qt_skip hS (hS.unwanted rfl rfl rfl rfl) rfl fun a hS => qt_skip hS (hS.unwanted rfl rfl rfl rfl) rfl fun a hS => qt_skip hS (hS.unwanted rfl rfl rfl rfl) rfl fun a hS => qt_skip hS (hS.unwanted rfl rfl rfl rfl) rfl fun a hS => qt_skip hS (hS.unwanted rfl rfl rfl rfl) rfl fun a hS => qt_skip hS (hS.unwanted rfl rfl rfl rfl) rfl fun a hS => qt_skip hS (hS.unwanted rfl rfl rfl rfl) rfl fun a hS => qt_skip hS (hS.unwanted rfl rfl rfl rfl) rfl fun a hS => qt_skip hS (hS.unwanted rfl rfl rfl rfl) rfl fun a hS => qt_skip hS (hS.unwanted rfl rfl rfl rfl) rfl fun a hS => qt_skip hS (hS.unwanted rfl rfl rfl rfl) rfl fun a hS => qt_skip hS (hS.unwanted rfl rfl rfl rfl) rfl fun a hS => qt_skip hS (hS.unwanted rfl rfl rfl rfl) rfl fun a hS => qt_skip hS (hS.unwanted rfl rfl rfl rfl) rfl fun a hS => qt_v hS rfl rfl (fun W hB hS => run_pick_f hS rfl rfl) fun a hS => qt_v hS rfl rfl (fun W hB hS => run_assign hS rfl) fun a hS => qt_nil hS fun W hS => ?_
  have hS := hS.sub (κ' := [(0, _), (1, _), (2, _)]) (Sub.cons rfl (Sub.cons rfl (Sub.cons rfl Sub.nil)))
  refine wpIn_ret ?_
  repeat (first | refine q_ret ?_ | refine q_block_ret ?_)
  refine hS.done (res1 (fn := Tryz.f83) (r1 := .tmp 2) rfl (rv_tmp hS rfl)) ?_
  refine vb ?_; simp only [liesT, lies, Bool.and_eq_true, decide_eq_true_eq, Bool.false_eq_true, false_iff, true_iff]; unfold lastOf; omega


set_option maxHeartbeats 2000000 in
set_option maxRecDepth 100000 in
theorem rotor_chk2  (x : LookV) {w : World} {Fx : Nat → Prop} (hx : TabR Fx w x.V x.t) (hok : tabOk x.t = true) : Ret Tryz.prog 158 [.agg (lookC x).toArray] w (fun v _ => v = .bool (!(liesT x.t x.p x.q))) := by
 refine ret_start (n := 6) Tryz.func158 rfl rfl rfl (fun a hS => ?_)
 have Hx : ∀ W, Below w.heap.size w W → TabR Fx W x.V x.t := fun W hb => hx.move (keep_of hb)
 have hmxx := hx.1.len
 have hmxy := hx.2.1.len
 have hmxv := hx.2.2.len
 refine wpIn_seq ?_
 refine wpIn_region_lit ?_
 refine st_box_agg hS rfl rfl rfl fun W a b0 hS => st_v hS rfl rfl (run_assign hS rfl) fun a hS => wl_nil ?_
 refine wpIn_seq ?_
 refine wpIn_region_lit ?_
 refine st_v hS rfl rfl (run_load_all (i := 0) Tryz.isAgg122 Tryz.sizeOf122 hS rfl rfl rfl) fun a hS => st_call (rotor_lies x (Hx _ hS.below) (by assumption)) Tryz.call83 hS rfl rfl rfl fun v W a hR hB hlt hS => ?_
 subst hR
 refine st_v hS rfl rfl (run_not hS rfl) fun a hS => st_v hS rfl rfl (run_assign hS rfl) fun a hS => wl_nil ?_
 refine wpIn_ret ?_
 repeat (first | refine q_ret ?_ | refine q_block_ret ?_)
 refine hS.done (res1 (fn := Tryz.f158) (r1 := .tmp 2) rfl (rv_tmp hS rfl)) ?_
 rfl


set_option maxHeartbeats 2000000 in
set_option maxRecDepth 100000 in
theorem rotor_bound  (x : LookV) {w : World} {Fx : Nat → Prop} (hx : TabR Fx w x.V x.t) (hok : tabOk x.t = true) (hp : x.p.ok = true) (hq : x.q.ok = true) (hl : liesT x.t x.p x.q = true) : Ret Tryz.prog 95 [.agg (lookC x).toArray] w (fun v _ => v = .agg (spanC (bnd x.t x.p x.q)).toArray) := by
 refine ret_start (n := 16) Tryz.func95 rfl rfl rfl (fun a hS => ?_)
 have Hx : ∀ W, Below w.heap.size w W → TabR Fx W x.V x.t := fun W hb => hx.move (keep_of hb)
 have hmxx := hx.1.len
 have hmxy := hx.2.1.len
 have hmxv := hx.2.2.len
 refine wpIn_seq ?_
 refine wpIn_region_lit ?_
 refine st_box_agg hS rfl rfl rfl fun W a b0 hS => st_alloc_agg Tryz.zeroValue31 hS rfl rfl fun W a b1 hS => wl_nil ?_
 refine wpIn_seq ?_
 refine wpIn_region_lit ?_
 refine st_v hS rfl rfl (run_fieldAddr fa122_0 hS rfl) fun a hS => st_v hS rfl rfl (run_load_agg (i := 1) (vs := [_, _, _]) Tryz.isAgg25 Tryz.sizeOf25 hS rfl rfl rfl ⟨rfl, rfl, rfl, trivial⟩) fun a hS => st_v hS rfl rfl (run_fieldAddr fa122_1 hS rfl) fun a hS => st_v hS rfl rfl (run_load_agg (i := 1) (vs := [_, _]) Tryz.isAgg31 Tryz.sizeOf31 hS rfl rfl rfl ⟨rfl, rfl, trivial⟩) fun a hS => st_v hS rfl rfl (run_fieldAddr fa122_2 hS rfl) fun a hS => st_v hS rfl rfl (run_load_agg (i := 1) (vs := [_, _]) Tryz.isAgg31 Tryz.sizeOf31 hS rfl rfl rfl ⟨rfl, rfl, trivial⟩) fun a hS => st_call (spans_Bound x.V x.t x.p x.q (Hx _ hS.below)) Tryz.call41 hS rfl rfl rfl fun v W a hR hB hlt hS => ?_
 subst hR
 refine st_v hS rfl rfl (run_move hS rfl) fun a hS => st_v hS rfl rfl (run_extract hS rfl rfl) fun a hS => st_v hS rfl rfl (run_extract hS rfl rfl) fun a hS => st_alloc_agg Tryz.zeroValue31 hS rfl rfl fun W a b2 hS => st_store (i := 0) Tryz.sizeOf31 hS rfl rfl rfl rfl rfl rfl rfl rfl rfl fun W a hS => st_v hS rfl rfl (run_assign hS rfl) fun a hS => wl_nil ?_
 refine wpIn_seq ?_
 refine wpIn_region_lit ?_
 refine st_v hS rfl rfl (run_load_all (i := 0) Tryz.isAgg31 Tryz.sizeOf31 hS rfl rfl rfl) fun a hS => st_store (i := 1) Tryz.sizeOf31 hS rfl rfl rfl rfl rfl rfl rfl rfl rfl fun W a hS => wl_nil ?_
 refine wpIn_ret ?_
 repeat (first | refine q_ret ?_ | refine q_block_ret ?_)
 refine hS.done (res1 (fn := Tryz.f95) (r1 := .cell 2 31) rfl (rv_agg (i := 1) Tryz.isAgg31 Tryz.sizeOf31 hS rfl rfl rfl)) ?_
 simp only [hok, hp, hq, hl, Bool.and_self, if_true]; rfl


set_option maxHeartbeats 2000000 in
set_option maxRecDepth 100000 in
theorem idx_look (sxs : SV) (xs : List LookV) (f : FuncId) (cap : List Value) (p : LookV → Bool) {F : Nat → Prop} {w : World} (hxs : Sl kLook F w sxs xs) (hf : Enters Tryz.prog f) (hp : ∀ W, Below w.heap.size w W → ∀ x ∈ xs, Ret Tryz.prog f (.agg (lookC x).toArray :: cap) W (fun v _ => v = .bool (p x))) : Ret Tryz.prog 208 [.slice sxs.a xs.length sxs.c, .func (.func f) #[] cap.toArray] w (fun v _ => v = .int .i64 (idxOf p xs)) := by
 refine ret_start (n := 19) Tryz.func208 rfl rfl rfl (fun a hS => ?_)
 have Hxs : ∀ W, Below w.heap.size w W → Sl kLook F W sxs xs := fun W hb => hxs.at_ hb
 have hmxs := hxs.len
 refine wpIn_seq ?_
 refine wpIn_region_lit ?_
 refine st_v hS rfl rfl (run_assign hS rfl) fun a hS => wl_nil ?_
 refine wpIn_seq ?_
 refine wpIn_seq ?_
 refine wpIn_region_lit ?_
 refine st_v hS rfl rfl (run_move hS rfl) fun a hS => st_v hS rfl rfl (run_len_slice Tryz.underlying120 hS rfl) fun a hS => st_v hS rfl rfl (run_move hS rfl) fun a hS => wl_nil ?_
 refine wpIn_block ?_
 refine st_loop2 (α := Nat) (fun x => [(8, .int .i64 (((x : Nat) : Int)))]) [(0, _), (1, _), (7, _)] (fun l _ => l) (fun x => x ≤ xs.length ∧ ∀ j, j < x → p (xs.getD j lookD) = false) (fun x => xs.length - x) (0) hS (Sub.cons rfl (Sub.cons rfl (Sub.cons rfl (Sub.cons rfl Sub.nil)))) rfl (⟨Nat.zero_le _, fun j hj => absurd hj (Nat.not_lt_zero j)⟩) (fun x W a hφ hS => ?_)
 dsimp only [setB, List.cons_append, List.nil_append, List.take] at hS
 obtain ⟨hx, hg⟩ := hφ
 refine wpIn_seq ?_
 refine wpIn_region_lit ?_
 refine st_v hS rfl rfl (run_bin hS rfl rfl rfl) fun a hS => wl_nil ?_
 refine wpIn_seq ?_
 refine st_cond hS rfl (fun hc1 => ?_) (fun hc1 => ?_)
 ·
  try simp only [ty] at hc1
  refine wpIn_skip ?_
  refine wpIn_seq ?_
  refine wpIn_block ?_
  refine wpIn_seq ?_
  refine wpIn_region_lit ?_
  refine st_v hS rfl rfl (run_move hS rfl) fun a hS => st_v hS rfl rfl (run_assign hS rfl) fun a hS => wl_nil ?_
  refine wpIn_seq ?_
  refine wpIn_region_lit ?_
  refine st_v hS rfl rfl (run_move hS rfl) fun a hS => st_v hS rfl rfl (run_move hS rfl) fun a hS => st_v hS rfl rfl (run_move hS rfl) fun a hS => ?_
  obtain ⟨ad0, hA0, hL0⟩ := sl_of Hxs (Below.refl _ _) _ (i := ((x : Nat) : Int)) (j := x) (by omega) (by omega)
  refine st_v hS rfl rfl (run_indexAddr Tryz.underlying120 Tryz.sizeOf122 hS rfl rfl hA0 (by omega) (by omega)) fun a hS => st_v hS rfl rfl (run_load_ext Tryz.isAgg122 Tryz.sizeOf122 hS rfl rfl (hL0 _ hS.below)) fun a hS => st_callv hS rfl rfl (hf) (hp _ hS.below (lookAt xs x) (lookAt_mem (by omega))) rfl rfl fun v W a hR hB hlt hS => ?_
  subst hR
  refine wl_nil ?_
  refine st_cond hS rfl (fun hc2 => ?_) (fun hc2 => ?_)
  ·
   try simp only [ty] at hc2
   refine wpIn_seq ?_
   refine wpIn_region_lit ?_
   refine st_v hS rfl rfl (run_move hS rfl) fun a hS => st_v hS rfl rfl (run_assign hS rfl) fun a hS => wl_nil ?_
   refine wpIn_ret ?_
   repeat (first | refine q_ret ?_ | refine q_block_ret ?_)
   refine hS.done (res1 (fn := Tryz.f208) (r1 := .tmp 4) rfl (rv_tmp hS rfl)) ?_
   rw [idxOf_some (d := lookD) (i := x) (by omega) hg (by assumption)]
  ·
   try simp only [ty] at hc2
   refine wpIn_skip ?_
   refine wpIn_region_lit ?_
   refine st_v hS rfl rfl (run_add (t := ((x + 1 : Nat) : Int)) hS rfl rfl (by omega) (by omega) (by omega)) fun a hS => st_v hS rfl rfl (run_move hS rfl) fun a hS => wl_nil ?_
   refine ⟨x + 1, ⟨⟨by omega, fun j hj => ?_⟩, by omega⟩, (hS.sub (Sub.cons rfl (Sub.cons rfl (Sub.cons rfl (Sub.cons rfl Sub.nil)))))⟩
   by_cases e : j = x
   · subst e; assumption
   · exact hg j (by omega)
 ·
  try simp only [ty] at hc1
  refine wpIn_exit ?_
  refine wpIn_seq ?_
  refine wpIn_region_lit ?_
  refine st_v hS rfl rfl (run_assign hS rfl) fun a hS => wl_nil ?_
  refine wpIn_ret ?_
  repeat (first | refine q_ret ?_ | refine q_block_ret ?_)
  refine hS.done (res1 (fn := Tryz.f208) (r1 := .tmp 4) rfl (rv_tmp hS rfl)) ?_
  rw [idxOf_none (d := lookD) (fun j hj => hg j (by omega))]


set_option maxHeartbeats 2000000 in
set_option maxRecDepth 100000 in
theorem has_look (sxs : SV) (xs : List LookV) (f : FuncId) (cap : List Value) (p : LookV → Bool) {F : Nat → Prop} {w : World} (hxs : Sl kLook F w sxs xs) (hf : Enters Tryz.prog f) (hp : ∀ W, Below w.heap.size w W → ∀ x ∈ xs, Ret Tryz.prog f (.agg (lookC x).toArray :: cap) W (fun v _ => v = .bool (p x))) : Ret Tryz.prog 157 [.slice sxs.a xs.length sxs.c, .func (.func f) #[] cap.toArray] w (fun v _ => v = .bool (xs.any p)) := by
 refine ret_start (n := 9) Tryz.func157 rfl rfl rfl (fun a hS => ?_)
 have Hxs : ∀ W, Below w.heap.size w W → Sl kLook F W sxs xs := fun W hb => hxs.at_ hb
 have hmxs := hxs.len
 refine wpIn_seq ?_
 refine wpIn_region_lit ?_
 refine st_v hS rfl rfl (run_assign hS rfl) fun a hS => wl_nil ?_
 refine wpIn_seq ?_
 refine wpIn_region_lit ?_
 refine st_v hS rfl rfl (run_move hS rfl) fun a hS => st_v hS rfl rfl (run_move hS rfl) fun a hS => st_call (idx_look sxs xs f cap p (Hxs _ hS.below) hf (fun W' hb => hp W' (hS.below.trans (hb.mono hS.below.size)))) Tryz.call208 hS rfl rfl rfl fun v W a hR hB hlt hS => ?_
 subst hR
 refine st_v hS rfl rfl (run_bin hS rfl rfl rfl) fun a hS => st_v hS rfl rfl (run_assign hS rfl) fun a hS => wl_nil ?_
 refine wpIn_ret ?_
 repeat (first | refine q_ret ?_ | refine q_block_ret ?_)
 refine hS.done (res1 (fn := Tryz.f157) (r1 := .tmp 4) rfl (rv_tmp hS rfl)) ?_
 rw [idxOf_ge]


def airs (a : Air) : List Span := [a.weight, a.temp, a.height, a.wind]
theorem airs_all (a : Air) : (airs a).all Span.ok = airOk a := by simp [airs, airOk, Bool.and_assoc]
theorem errC_if {r : Rot} {a : Air} {b : Bool} (h1 : rotOk r = true) (h2 : airOk a = true) : errC r a b = if b then 0 else 1 := by unfold errC; rw [if_pos h1, if_pos h2]
theorem errC_rot {r : Rot} {a : Air} {b : Bool} (h1 : rotOk r = false) : errC r a b = 20 := by unfold errC; rw [h1]; rfl
theorem errC_air {r : Rot} {a : Air} {b : Bool} (h1 : rotOk r = true) (h2 : airOk a = false) : errC r a b = 21 := by unfold errC; rw [h1, h2]; rfl
theorem chk_ok {r : Rot} (h : checkRot r = 0) : rotOk r = true := by
  unfold checkRot at h; cases h1 : rotOk r <;> simp [h1] at h ⊢
theorem chk_no {r : Rot} (h : ¬ checkRot r = 0) : rotOk r = false := by
  unfold checkRot at h; cases h1 : rotOk r <;> simp [h1] at h ⊢


set_option maxHeartbeats 4000000 in
set_option maxRecDepth 100000 in
theorem rotor_check (Vr : RV) (r : Rot) (A : Air) (sfu : SV) (fu : List Span) (ft : FuncId) (capt : List Value) (L : List LookV) {w : World} {Fr Ff FL : Nat → Prop} (hr : RotR Fr w Vr r) (hfu : Sl kSpan Ff w sfu fu) (hft : Enters Tryz.prog ft)
    (htab : ∀ W, Below w.heap.size w W → rotOk r = true → Ret Tryz.prog ft capt W (fun v W' => ∃ s : SV, v = .slice s.a L.length s.c ∧ Sl kLook (fun k => W.heap.size ≤ k) W' s L)) (hL : rotOk r = true → ∀ x ∈ L, TabR FL w x.V x.t ∧ tabOk x.t = true) :
    Ret Tryz.prog 77 [.agg (rotC Vr r).toArray, .agg (airC A).toArray, .slice sfu.a fu.length sfu.c, .func (.func ft) #[] capt.toArray] w (fun v _ => v = .int .i64 (errC r A (fu.all Span.ok && L.all fun x => liesT x.t x.p x.q))) := by
 refine ret_start (n := 42) Tryz.func77 rfl rfl rfl (fun a hS => ?_)
 have Hr : ∀ W, Below w.heap.size w W → RotR Fr W Vr r := fun W hb => hr.move (keep_of hb)
 have Hfu : ∀ W, Below w.heap.size w W → Sl kSpan Ff W sfu fu := fun W hb => hfu.at_ hb
 have hmf := hfu.len
 have h4 : (airs A).length = 4 := rfl
 refine wpIn_seq ?_
 refine wpIn_region_lit ?_
 refine st_box_agg hS rfl rfl rfl fun W a b0 hS => st_box_agg hS rfl rfl rfl fun W a b1 hS => st_v hS rfl rfl (run_assign hS rfl) fun a hS => wl_nil ?_
 refine wpIn_seq ?_
 refine wpIn_seq ?_
 refine wpIn_region_lit ?_
 refine st_v hS rfl rfl (run_load_all (i := 1) Tryz.isAgg27 Tryz.sizeOf27 hS rfl rfl rfl) fun a hS => st_call (rotor_Check Vr r (Hr _ hS.below)) Tryz.call154 hS rfl rfl rfl fun v W a hR hB hlt hS => ?_
 subst hR
 refine st_v hS rfl rfl (run_assign hS rfl) fun a hS => wl_nil ?_
 refine wpIn_seq ?_
 refine wpIn_region_lit ?_
 refine st_v hS rfl rfl (run_move hS rfl) fun a hS => st_v hS rfl rfl (run_bin hS rfl rfl rfl) fun a hS => wl_nil ?_
 refine st_cond hS rfl (fun hc1 => ?_) (fun hc1 => ?_)
 ·
  try simp only [ty] at hc1
  refine wpIn_seq ?_
  refine wpIn_region_lit ?_
  refine st_v hS rfl rfl (run_move hS rfl) fun a hS => st_v hS rfl rfl (run_assign hS rfl) fun a hS => wl_nil ?_
  refine wpIn_ret ?_
  repeat (first | refine q_ret ?_ | refine q_block_ret ?_)
  refine hS.done (res1 (fn := Tryz.f77) (r1 := .tmp 8) rfl (rv_tmp hS rfl)) ?_
  rw [errC_rot (chk_no hc1), checkRot, chk_no hc1]; rfl
 ·
  try simp only [ty] at hc1
  have hrok := chk_ok hc1
  refine wpIn_skip ?_
  refine wpIn_seq ?_
  refine wpIn_seq ?_
  refine wpIn_region_lit ?_
  refine st_v hS rfl rfl (run_fieldAddr fa33_0 hS rfl) fun a hS => st_v hS rfl rfl (run_load_agg (i := 0) (vs := [_, _]) Tryz.isAgg31 Tryz.sizeOf31 hS rfl rfl rfl ⟨rfl, rfl, trivial⟩) fun a hS => st_v hS rfl rfl (run_fieldAddr fa33_1 hS rfl) fun a hS => st_v hS rfl rfl (run_load_agg (i := 0) (vs := [_, _]) Tryz.isAgg31 Tryz.sizeOf31 hS rfl rfl rfl ⟨rfl, rfl, trivial⟩) fun a hS => st_v hS rfl rfl (run_fieldAddr fa33_2 hS rfl) fun a hS => st_v hS rfl rfl (run_load_agg (i := 0) (vs := [_, _]) Tryz.isAgg31 Tryz.sizeOf31 hS rfl rfl rfl ⟨rfl, rfl, trivial⟩) fun a hS => st_v hS rfl rfl (run_fieldAddr fa33_3 hS rfl) fun a hS => st_v hS rfl rfl (run_load_agg (i := 0) (vs := [_, _]) Tryz.isAgg31 Tryz.sizeOf31 hS rfl rfl rfl ⟨rfl, rfl, trivial⟩) fun a hS => st_buildSlice (pv := [(0, .agg #[.int .i64 _, .int .i64 _]), (1, .agg #[.int .i64 _, .int .i64 _]), (2, .agg #[.int .i64 _, .int .i64 _]), (3, .agg #[.int .i64 _, .int .i64 _])]) (fun W => bs61_4_0_1_2_3 _ _ _ _ _ _ _ _ W) hS rfl rfl rfl fun W a b2 hS => ?_
  have hS := hS.freeze (enc := spanC) (nn := 2) (bb := 16) (hb := by decide) (hl := fun _ => rfl) (airs A) rfl (Nat.le_of_ble_eq_true rfl)
  refine st_v hS rfl rfl (run_len_slice Tryz.underlying61 hS rfl) fun a hS => st_v hS rfl rfl (run_move hS rfl) fun a hS => wl_nil ?_
  refine wpIn_block ?_
  refine st_loop2 (α := Nat) (fun x => [(27, .int .i64 (((x : Nat) : Int)))]) [(0, _), (1, _), (2, _), (3, _), (4, _), (5, _), (9, _), (25, _), (26, _)] (fun l _ => l) (fun x => x ≤ 4 ∧ ∀ j, j < x → (spanAt (airs A) j).ok = true) (fun x => 4 - x) (0) hS (Sub.cons rfl (Sub.cons rfl (Sub.cons rfl (Sub.cons rfl (Sub.cons rfl (Sub.cons rfl (Sub.cons rfl (Sub.cons rfl (Sub.cons rfl (Sub.cons rfl Sub.nil)))))))))) rfl (⟨Nat.zero_le _, fun j hj => absurd hj (Nat.not_lt_zero j)⟩) (fun x W a hφ hS => ?_)
  dsimp only [setB, List.cons_append, List.nil_append, List.take] at hS
  obtain ⟨hx, hg⟩ := hφ
  refine wpIn_seq ?_
  refine wpIn_region_lit ?_
  refine st_v hS rfl rfl (run_bin hS rfl rfl rfl) fun a hS => wl_nil ?_
  refine wpIn_seq ?_
  refine st_cond hS rfl (fun hc2 => ?_) (fun hc2 => ?_)
  ·
   try simp only [ty] at hc2
   refine wpIn_skip ?_
   refine wpIn_seq ?_
   refine wpIn_block ?_
   refine wpIn_seq ?_
   refine wpIn_region_lit ?_
   obtain ⟨ad0, hA0, hL0⟩ := sl_span (fun _ h => h) hS.now.2 (i := ((x : Nat) : Int)) (j := x) (by omega) (by omega)
   refine st_v hS rfl rfl (run_indexAddr Tryz.underlying61 Tryz.sizeOf31 hS rfl rfl hA0 (by omega) (by omega)) fun a hS => st_v hS rfl rfl (run_load_ext Tryz.isAgg31 Tryz.sizeOf31 hS rfl rfl (hL0 _ hS.now.2)) fun a hS => st_alloc_agg Tryz.zeroValue31 hS rfl rfl fun W a b3 hS => st_store (i := 0) Tryz.sizeOf31 hS rfl rfl rfl rfl rfl rfl rfl rfl rfl fun W a hS => wl_nil ?_
   refine wpIn_seq ?_
   refine wpIn_region_lit ?_
   refine st_v hS rfl rfl (run_load_all (i := 0) Tryz.isAgg31 Tryz.sizeOf31 hS rfl rfl rfl) fun a hS => st_call (rotor_valid (spanAt (airs A) (x))) Tryz.call82 hS rfl rfl rfl fun v W a hR hB hlt hS => ?_
   subst hR
   refine st_v hS rfl rfl (run_not hS rfl) fun a hS => wl_nil ?_
   refine st_cond hS rfl (fun hc3 => ?_) (fun hc3 => ?_)
   ·
    try simp only [ty] at hc3
    refine wpIn_seq ?_
    refine wpIn_region_lit ?_
    refine st_v hS rfl rfl (run_assign hS rfl) fun a hS => wl_nil ?_
    refine wpIn_ret ?_
    repeat (first | refine q_ret ?_ | refine q_block_ret ?_)
    refine hS.done (res1 (fn := Tryz.f77) (r1 := .tmp 8) rfl (rv_tmp hS rfl)) ?_
    have h : airOk A = false := by rw [← airs_all]; exact all_bad (d := ⟨0, 0⟩) (i := x) (by omega) (by simpa [spanAt] using hc3)
    rw [errC_air hrok h]
   ·
    try simp only [ty] at hc3
    refine wpIn_skip ?_
    refine wpIn_region_lit ?_
    refine st_v hS rfl rfl (run_add (t := ((x + 1 : Nat) : Int)) hS rfl rfl (by omega) (by omega) (by omega)) fun a hS => st_v hS rfl rfl (run_move hS rfl) fun a hS => wl_nil ?_
    refine ⟨x + 1, ⟨⟨by omega, fun j hj => ?_⟩, by omega⟩, (hS.sub (Sub.cons rfl (Sub.cons rfl (Sub.cons rfl (Sub.cons rfl (Sub.cons rfl (Sub.cons rfl (Sub.cons rfl (Sub.cons rfl (Sub.cons rfl (Sub.cons rfl Sub.nil))))))))))).drop (List.Sublist.cons _ (List.Sublist.refl _))⟩
    by_cases e : j = x
    · subst e; simpa using hc3
    · exact hg j (by omega)
  ·
   try simp only [ty] at hc2
   refine wpIn_exit ?_
   refine wpIn_seq ?_
   refine wpIn_seq ?_
   refine wpIn_region_lit ?_
   refine st_v hS rfl rfl (run_move hS rfl) fun a hS => st_call (has_span sfu fu 156 [] (fun p => !(p.ok)) (Hfu _ hS.below) Tryz.call156 (fun W' hb x hx => rotor_chk1 _)) Tryz.call155 hS rfl rfl rfl fun v W a hR hB hlt hS => ?_
   subst hR
   have haok : airOk A = true := by
     rw [← airs_all]; exact all_good (d := ⟨0, 0⟩) fun i hi => hg i (by omega)
   refine st_v hS rfl rfl (run_move hS rfl) fun a hS => ?_
   refine st_split (d := 37) hS rfl (fun hc4 hS => ?_) (fun hc4 hS => ?_)
   ·
    try simp only [ty] at hc4
    refine st_skip hS (hS.unwanted rfl rfl rfl rfl) rfl fun a hS => st_skip hS (hS.unwanted rfl rfl rfl rfl) rfl fun a hS => st_skip hS (hS.unwanted rfl rfl rfl rfl) rfl fun a hS => st_v hS rfl rfl (run_pick_t hS rfl rfl) fun a hS => wl_nil ?_
    refine st_cond_t hS rfl ?_
    refine wpIn_seq ?_
    refine wpIn_region_lit ?_
    refine st_v hS rfl rfl (run_assign hS rfl) fun a hS => wl_nil ?_
    refine wpIn_ret ?_
    repeat (first | refine q_ret ?_ | refine q_block_ret ?_)
    refine hS.done (res1 (fn := Tryz.f77) (r1 := .tmp 8) rfl (rv_tmp hS rfl)) ?_
    have hf : fu.all Span.ok = false := by rw [List.all_eq_not_any_not]; simp [hc4]
    rw [errC_if hrok haok, hf]; rfl
   ·
    try simp only [ty] at hc4
    refine st_v hS (hS.wanted rfl rfl rfl) rfl (run_move hS rfl) fun a hS => st_callv hS rfl rfl (hft) (htab _ hS.below hrok) (hS.wanted rfl rfl rfl) rfl fun v W a hR hB hlt hS => ?_
    obtain ⟨s0, rfl, hs0⟩ := hR
    refine st_call (has_look s0 L 158 [] (fun x => !(liesT x.t x.p x.q)) hs0 Tryz.call158 (fun W' hb x hx => rotor_chk2 _ ((hL hrok x hx).1.move (keep_of (hS.below.trans (hb.mono hS.below.size)))) (hL hrok x hx).2)) Tryz.call157 hS (hS.wanted rfl rfl rfl) rfl rfl fun v W a hR hB hlt hS => ?_
    subst hR
    refine st_v hS rfl rfl (run_pick_f hS rfl rfl) fun a hS => wl_nil ?_
    refine st_cond hS rfl (fun hc5 => ?_) (fun hc5 => ?_)
    ·
     try simp only [ty] at hc5
     refine wpIn_seq ?_
     refine wpIn_region_lit ?_
     refine st_v hS rfl rfl (run_assign hS rfl) fun a hS => wl_nil ?_
     refine wpIn_ret ?_
     repeat (first | refine q_ret ?_ | refine q_block_ret ?_)
     refine hS.done (res1 (fn := Tryz.f77) (r1 := .tmp 8) rfl (rv_tmp hS rfl)) ?_
     have hf : (L.all fun x => liesT x.t x.p x.q) = false := by rw [List.all_eq_not_any_not]; simp only [hc5]; rfl
     rw [errC_if hrok haok, hf, Bool.and_false]; rfl
    ·
     try simp only [ty] at hc5
     refine wpIn_skip ?_
     refine wpIn_seq ?_
     refine wpIn_region_lit ?_
     refine st_v hS rfl rfl (run_assign hS rfl) fun a hS => wl_nil ?_
     refine wpIn_ret ?_
     repeat (first | refine q_ret ?_ | refine q_block_ret ?_)
     refine hS.done (res1 (fn := Tryz.f77) (r1 := .tmp 8) rfl (rv_tmp hS rfl)) ?_
     have hf : fu.all Span.ok = true := by rw [List.all_eq_not_any_not]; simp [hc4]
     have hf2 : (L.all fun x => liesT x.t x.p x.q) = true := by rw [List.all_eq_not_any_not]; simp only [hc5]; rfl
     rw [errC_if hrok haok, hf, hf2]; rfl

end Go.Proofs.YtdnodlgebpnfoaaGreat
