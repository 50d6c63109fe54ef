/- The statement RotorChecks, walked. -/
import Derived.Test.YtdnodlgebpnfoaaEx
namespace Go.Proofs.Ytdnodlgebpnfoaa
open Go Go.RowKit Go.Shelf Sw
set_option linter.unusedVariables false
set_option linter.unusedSimpArgs false

set_option maxHeartbeats 2000000 in
set_option maxRecDepth 100000 in
theorem law_RotorChecks  (Vr : RV) (r : Rot) {w : World} {Fr : Nat → Prop} (hr : RotR Fr w Vr r)  : Ret Try.prog 3 [.agg (rotC Vr r).toArray] w (fun v _ => v = .bool true) := by
  refine ret_start (n := 15) Try.func3 rfl rfl rfl (fun a hS => ?_)
  have Hr : ∀ W, Below w.heap.size w W → RotR Fr W Vr r := fun W hb => hr.move (keep_of hb)
  refine wpIn_seq ?_
  refine wpIn_region_lit ?_
  refine st_box_agg hS rfl rfl rfl fun W a b0 hS => st_v hS rfl rfl (run_assign hS rfl) fun a hS => wl_nil ?_
  refine wpIn_seq ?_
  refine wpIn_seq ?_
  refine wpIn_region_lit ?_
  refine st_v hS rfl rfl (run_load_all (i := 0) Try.isAgg27 Try.sizeOf27 hS rfl rfl rfl) fun a hS => st_call (law02_Far Vr r (Hr _ hS.below)) Try.call15 hS rfl rfl rfl fun v W a hR hB hlt hS => ?_
  subst hR
  refine wl_nil ?_
  refine st_cond hS rfl (fun hc1 => ?_) (fun hc1 => ?_)
  · skip
    try simp only [decide_eq_true_eq, decide_eq_false_iff_not, Bool.not_eq_true', Bool.not_eq_false', bne_iff_ne, beq_iff_eq, bne_eq_false_iff_eq, beq_eq_false_iff_ne, ne_eq, Int.not_le, Int.not_lt, ge_iff_le, gt_iff_lt] at hc1
    refine wpIn_seq ?_
    refine wpIn_region_lit ?_
    refine st_call (law02_works) Try.call16 hS rfl rfl rfl fun v W a hR hB hlt hS => ?_
    subst hR
    refine st_v hS rfl rfl (run_assign hS rfl) fun a hS => wl_nil ?_
    refine wpIn_ret ?_
    repeat (first | refine q_ret ?_ | refine q_block_ret ?_)
    refine hS.done (res1 (fn := Try.f3) (r1 := .tmp 2) rfl (rv_tmp hS rfl)) ?_
    rfl
  · skip
    try simp only [decide_eq_true_eq, decide_eq_false_iff_not, Bool.not_eq_true', Bool.not_eq_false', bne_iff_ne, beq_iff_eq, bne_eq_false_iff_eq, beq_eq_false_iff_ne, ne_eq, Int.not_le, Int.not_lt, ge_iff_le, gt_iff_lt] at hc1
    refine wpIn_skip ?_
    refine wpIn_seq ?_
    refine anyh_start (by kernel_rfl) [true] hS fun W hS => ?_
    refine anyh_take (i := 0) [true] hS (fun _ h => h) rfl rfl (by kernel_rfl) (by kernel_rfl) (by kernel_rfl) rfl rfl (fun W' hS => run_load_all (i := 0) Try.isAgg27 Try.sizeOf27 hS rfl rfl rfl) fun a hS => ?_
    refine anyh_take (i := 3) [true] hS (fun _ h => h) rfl rfl (by kernel_rfl) (by kernel_rfl) (by kernel_rfl) rfl rfl (fun W' hS => run_load_all (i := 0) Try.isAgg27 Try.sizeOf27 hS rfl rfl rfl) fun a hS => ?_
    refine anyh_go (rs := [1]) (by kernel_rfl) (by simp) ⟨⟨_, rfl, ?_⟩, trivial⟩
    have hw0 := hS.below.size
    refine st_call (law02_own Vr r (Hr _ hS.below) (by exact farR_not hc1)) Try.call18 hS rfl rfl rfl fun v W a hR hB hlt hS => ?_
    
    obtain ⟨V0, rfl, hV0⟩ := hR
    have hS := hS.moreRot hw0 hlt hV0
    refine wl_nil ?_
    refine anyh_next [true] hS (fun _ h => h.1) rfl ?_
    refine anyh_go (rs := [2]) (by kernel_rfl) (by simp) ⟨⟨_, rfl, ?_⟩, trivial⟩
    refine st_call (rotor_Check V0 r ((fun _ h => h) _ hS.now.2)) Try.call17 hS rfl rfl rfl fun v W a hR hB hlt hS => ?_
    subst hR
    refine wl_nil ?_
    refine anyh_next [true] hS (fun _ h => h.1) rfl ?_
    refine anyh_go (rs := [4]) (by kernel_rfl) (by simp) ⟨⟨_, rfl, ?_⟩, trivial⟩
    refine st_call (ref02_Check Vr r (Hr _ hS.below)) Try.call19 hS rfl rfl rfl fun v W a hR hB hlt hS => ?_
    subst hR
    refine wl_nil ?_
    refine anyh_next [true] hS (fun _ h => h.1) rfl ?_
    refine anyh_take (i := 5) [true] hS (fun _ h => h.1) rfl rfl (by kernel_rfl) (by kernel_rfl) (by kernel_rfl) rfl rfl (fun W' hS => run_bin hS rfl rfl rfl) fun a hS => ?_
    refine anyh_take (i := 6) [true] hS (fun _ h => h.1) rfl rfl (by kernel_rfl) (by kernel_rfl) (by kernel_rfl) rfl rfl (fun W' hS => run_move hS rfl) fun a hS => ?_
    refine anyh_go (rs := [7]) (by kernel_rfl) (by simp) ⟨⟨_, rfl, ?_⟩, trivial⟩
    refine st_split (d := 12) hS rfl (fun hc2 hS => ?_) (fun hc2 hS => ?_)
    · skip
      try simp only [decide_eq_true_eq, decide_eq_false_iff_not, Bool.not_eq_true', Bool.not_eq_false', bne_iff_ne, beq_iff_eq, bne_eq_false_iff_eq, beq_eq_false_iff_ne, ne_eq, Int.not_le, Int.not_lt, ge_iff_le, gt_iff_lt] at hc2
      
      refine st_call (law02_works) Try.call16 hS (hS.wanted rfl rfl rfl) rfl rfl fun v W a hR hB hlt hS => ?_
      subst hR
      refine wl_nil ?_
      refine anyh_next [true] hS (fun _ h => h.1) rfl ?_
      refine anyh_take (i := 8) [true] hS (fun _ h => h.1) rfl rfl (by kernel_rfl) (by kernel_rfl) (by kernel_rfl) rfl rfl (fun W' hS => run_pick_t hS rfl rfl) fun a hS => ?_
      refine anyh_take (i := 9) [true] hS (fun _ h => h.1) rfl rfl (by kernel_rfl) (by kernel_rfl) (by kernel_rfl) rfl rfl (fun W' hS => run_assign hS rfl) fun a hS => ?_
      refine anyh_done (by kernel_rfl) ?_ _
      refine wpIn_ret ?_
      repeat (first | refine q_ret ?_ | refine q_block_ret ?_)
      refine hS.done (res1 (fn := Try.f3) (r1 := .tmp 2) rfl (rv_tmp hS rfl)) ?_
      rfl
    · skip
      try simp only [decide_eq_true_eq, decide_eq_false_iff_not, Bool.not_eq_true', Bool.not_eq_false', bne_iff_ne, beq_iff_eq, bne_eq_false_iff_eq, beq_eq_false_iff_ne, ne_eq, Int.not_le, Int.not_lt, ge_iff_le, gt_iff_lt] at hc2
      simp at hc2

end Go.Proofs.Ytdnodlgebpnfoaa
