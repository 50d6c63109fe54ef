/- The statements RotorKept and RotorEach, walked. -/
import Derived.Test.YtdnodlgebpnfoaaLawHovers
import Derived.Test.YtdnodlgebpnfoaaCut
namespace Go.Proofs.Ytdnodlgebpnfoaa
open Go Go.RowKit Go.Shelf Sw
set_option linter.unusedVariables false
set_option linter.unusedSimpArgs false

set_option maxHeartbeats 2000000 in
set_option maxRecDepth 100000 in
theorem law02_pick  (p : Span) {m : Int} {n : Int} {w : World}  (hp : p.ok = true) : Ret Try.prog 26 [.agg (spanC p).toArray, .int .i64 m, .int .i64 n] w (fun v _ => v = .agg (spanC (pickOf p m n)).toArray) := by
  refine ret_start (n := 43) Try.func26 rfl rfl rfl (fun a hS => ?_)
  have h1 := (Span.ok_iff p).1 hp
  have hw : 1 ≤ wid p ∧ wid p ≤ 2000001 := by unfold wid; omega
  have ha := tmod_in (m := m) (d := wid p) (by omega); have hb := tmod_in (m := n) (d := wid p) (by omega)
  have hc := inW_in hp m; have hd := inW_in hp n
  have hm1 : 0 ≤ min2 (inW p m) (inW p n) ∧ min2 (inW p m) (inW p n) < wid p := by unfold min2; split <;> omega
  have hm2 : 0 ≤ max2 (inW p m) (inW p n) ∧ max2 (inW p m) (inW p n) < wid p := by unfold max2; split <;> omega
  have hwd : wid p = p.hi - p.lo + 1 := rfl
  refine wpIn_seq ?_
  refine wpIn_region_lit ?_
  refine st_box_agg hS rfl rfl rfl fun W a b0 hS => st_alloc_agg Try.zeroValue34 hS rfl rfl fun W a b1 hS => wl_nil ?_
  refine wpIn_seq ?_
  refine wpIn_region_lit ?_
  refine st_v hS rfl rfl (run_fieldAddr fa34_1 hS rfl) fun a hS => st_v hS rfl rfl (run_load_one (i := 1) Try.isAgg3 hS rfl rfl rfl) fun a hS => st_v hS rfl rfl (run_fieldAddr fa34_0 hS rfl) fun a hS => st_v hS rfl rfl (run_load_one (i := 1) Try.isAgg3 hS rfl rfl rfl) fun a hS => st_v hS rfl rfl (run_sub (t := p.hi - p.lo) hS rfl rfl (rfl) (by omega) (by omega)) fun a hS => st_v hS rfl rfl (run_add (t := (wid p)) hS rfl rfl (by rfl) (by omega) (by omega)) fun a hS => st_v hS rfl rfl (run_assign hS rfl) fun a hS => wl_nil ?_
  refine wpIn_seq ?_
  have hlt0 := fun B hB => hS.lt (b := B) hB
  refine st_mix (k := 16) (by kernel_rfl) (by kernel_rfl) hS rfl rfl ?_
  refine mx_v (fun a W hS hB => run_move hS rfl) <| mx_v (fun a W hS hB => run_move hS rfl) <| mx_v (fun a W hS hB => run_rem' (t := Int.tmod m (wid p)) hS rfl rfl (by unfold wid; omega) (rfl)) <| mx_v (fun a W hS hB => run_move hS rfl) <| mx_v (fun a W hS hB => run_add (t := (Int.tmod m (wid p)) + (wid p)) hS rfl rfl (rfl) (by omega) (by omega)) <| mx_v (fun a W hS hB => run_move hS rfl) <| mx_v (fun a W hS hB => run_rem' (t := (inW p m)) hS rfl rfl (by unfold wid; omega) (by rfl)) <| mx_v (fun a W hS hB => run_move hS rfl) <| mx_v (fun a W hS hB => run_move hS rfl) <| mx_v (fun a W hS hB => run_rem' (t := Int.tmod n (wid p)) hS rfl rfl (by unfold wid; omega) (rfl)) <| mx_v (fun a W hS hB => run_move hS rfl) <| mx_v (fun a W hS hB => run_add (t := (Int.tmod n (wid p)) + (wid p)) hS rfl rfl (rfl) (by omega) (by omega)) <| mx_v (fun a W hS hB => run_move hS rfl) <| mx_v (fun a W hS hB => run_rem' (t := (inW p n)) hS rfl rfl (by unfold wid; omega) (by rfl)) <| mx_v (fun a W hS hB => run_assign hS rfl) <| mx_v (fun a W hS hB => run_assign hS rfl) <| ?_
  refine mx_end fun a W bs us hS hB hL => ?_
  dsimp only [kall, ball, List.cons_append, List.nil_append] at hS
  refine wl_nil ?_
  refine wpIn_seq ?_
  refine wpIn_region_lit ?_
  refine st_v hS rfl rfl (run_fieldAddr fa34_0 hS rfl) fun a hS => st_v hS rfl rfl (run_load_one (i := 1) Try.isAgg3 hS rfl rfl rfl) fun a hS => st_v hS rfl rfl (run_move hS rfl) fun a hS => st_v hS rfl rfl (run_move hS rfl) fun a hS => st_v hS rfl rfl (run_min hS rfl rfl) fun a hS => st_v hS rfl rfl (run_add (t := p.lo + ((min2 (inW p m) (inW p n)))) hS rfl rfl (rfl) (by omega) (by omega)) fun a hS => st_v hS rfl rfl (run_fieldAddr fa34_0 hS rfl) fun a hS => st_v hS rfl rfl (run_load_one (i := 1) Try.isAgg3 hS rfl rfl rfl) fun a hS => st_v hS rfl rfl (run_move hS rfl) fun a hS => st_v hS rfl rfl (run_move hS rfl) fun a hS => st_v hS rfl rfl (run_max hS rfl rfl) fun a hS => st_v hS rfl rfl (run_add (t := p.lo + ((max2 (inW p m) (inW p n)))) hS rfl rfl (rfl) (by omega) (by omega)) fun a hS => st_v hS rfl rfl (run_build (pv := [(0, .int .i64 _), (1, .int .i64 _)]) (fun W => bd34_0_1 _ _ W) hS rfl) fun a hS => st_store (i := 0) Try.sizeOf34 hS rfl rfl rfl rfl rfl rfl rfl rfl rfl fun W a hS => wl_nil ?_
  have hS := hS.sub (κ' := [(0, _), (1, _), (2, _), (3, _), (6, _), (7, _), (8, _), (9, _), (42, _)]) (Sub.cons rfl (Sub.cons rfl (Sub.cons rfl (Sub.cons rfl (Sub.cons rfl (Sub.cons rfl (Sub.cons rfl (Sub.cons rfl (Sub.cons rfl Sub.nil)))))))))
  refine wpIn_ret ?_
  repeat (first | refine q_ret ?_ | refine q_block_ret ?_)
  refine hS.done (res1 (fn := Try.f26) (r1 := .cell 6 34) rfl (rv_agg (i := 0) Try.isAgg34 Try.sizeOf34 hS rfl rfl rfl)) ?_
  rfl


set_option maxHeartbeats 2000000 in
set_option maxRecDepth 100000 in
theorem law02_smaller {n : Nat → Int} (A : Air) {w : World}  (haok : airOk A = true) : Ret Try.prog 52 [.agg (airC A).toArray, .agg (n12C n).toArray] w (fun v _ => v = .agg (airC (smallOf A n)).toArray) := by
  refine ret_start (n := 34) Try.func52 rfl rfl rfl (fun a hS => ?_)
  obtain ⟨hA1, hA2, hA3, hA4⟩ := (airOk_iff A).1 haok
  refine wpIn_seq ?_
  refine wpIn_region_lit ?_
  refine st_box_agg hS rfl rfl rfl fun W a b0 hS => st_box_agg hS rfl rfl rfl fun W a b1 hS => st_alloc_agg Try.zeroValue36 hS rfl rfl fun W a b2 hS => wl_nil ?_
  refine wpIn_seq ?_
  have hlt0 := fun B hB => hS.lt (b := B) hB
  refine st_mix (k := 29) (by kernel_rfl) (by kernel_rfl) hS rfl rfl ?_
  refine mx_v (fun a W hS hB => run_fieldAddr fa36_0 hS rfl) <| mx_v (fun a W hS hB => run_load_agg (i := 2) (vs := [_, _]) Try.isAgg34 Try.sizeOf34 hS rfl rfl rfl ⟨rfl, rfl, trivial⟩) <| mx_v (fun a W hS hB => run_idxArr (fun W => ia44_0 _ _ W) hS rfl rfl) <| mx_v (fun a W hS hB => run_load_one (i := 1) Try.isAgg3 hS rfl rfl rfl) <| mx_v (fun a W hS hB => run_idxArr (fun W => ia44_1 _ _ W) hS rfl rfl) <| mx_v (fun a W hS hB => run_load_one (i := 1) Try.isAgg3 hS rfl rfl rfl) <| mx_call Try.call26 rfl (fun a W hS hB => law02_pick A.weight (by exact hA1)) <| mx_v (fun a W hS hB => run_fieldAddr fa36_1 hS rfl) <| mx_v (fun a W hS hB => run_load_agg (i := 2) (vs := [_, _]) Try.isAgg34 Try.sizeOf34 hS rfl rfl rfl ⟨rfl, rfl, trivial⟩) <| mx_v (fun a W hS hB => run_idxArr (fun W => ia44_2 _ _ W) hS rfl rfl) <| mx_v (fun a W hS hB => run_load_one (i := 1) Try.isAgg3 hS rfl rfl rfl) <| mx_v (fun a W hS hB => run_idxArr (fun W => ia44_3 _ _ W) hS rfl rfl) <| mx_v (fun a W hS hB => run_load_one (i := 1) Try.isAgg3 hS rfl rfl rfl) <| mx_call Try.call26 rfl (fun a W hS hB => law02_pick A.temp (by exact hA2)) <| mx_v (fun a W hS hB => run_fieldAddr fa36_2 hS rfl) <| mx_v (fun a W hS hB => run_load_agg (i := 2) (vs := [_, _]) Try.isAgg34 Try.sizeOf34 hS rfl rfl rfl ⟨rfl, rfl, trivial⟩) <| mx_v (fun a W hS hB => run_idxArr (fun W => ia44_4 _ _ W) hS rfl rfl) <| mx_v (fun a W hS hB => run_load_one (i := 1) Try.isAgg3 hS rfl rfl rfl) <| mx_v (fun a W hS hB => run_idxArr (fun W => ia44_5 _ _ W) hS rfl rfl) <| mx_v (fun a W hS hB => run_load_one (i := 1) Try.isAgg3 hS rfl rfl rfl) <| mx_call Try.call26 rfl (fun a W hS hB => law02_pick A.height (by exact hA3)) <| mx_v (fun a W hS hB => run_fieldAddr fa36_3 hS rfl) <| mx_v (fun a W hS hB => run_load_agg (i := 2) (vs := [_, _]) Try.isAgg34 Try.sizeOf34 hS rfl rfl rfl ⟨rfl, rfl, trivial⟩) <| mx_v (fun a W hS hB => run_idxArr (fun W => ia44_6 _ _ W) hS rfl rfl) <| mx_v (fun a W hS hB => run_load_one (i := 1) Try.isAgg3 hS rfl rfl rfl) <| mx_v (fun a W hS hB => run_idxArr (fun W => ia44_7 _ _ W) hS rfl rfl) <| mx_v (fun a W hS hB => run_load_one (i := 1) Try.isAgg3 hS rfl rfl rfl) <| mx_call Try.call26 rfl (fun a W hS hB => law02_pick A.wind (by exact hA4)) <| mx_v (fun a W hS hB => run_build (pv := [(0, .agg #[.int .i64 _, .int .i64 _]), (1, .agg #[.int .i64 _, .int .i64 _]), (2, .agg #[.int .i64 _, .int .i64 _]), (3, .agg #[.int .i64 _, .int .i64 _])]) (fun W => bd36_0_1_2_3 _ _ _ _ _ _ _ _ W) hS rfl) <| ?_
  refine mx_end fun a W bs us hS hB hL => ?_
  dsimp only [kall, ball, List.cons_append, List.nil_append] at hS
  refine st_store (cs' := [.int .i64 (((pickOf A.weight (n 0) (n 1))).lo), .int .i64 (((pickOf A.weight (n 0) (n 1))).hi), .int .i64 (((pickOf A.temp (n 2) (n 3))).lo), .int .i64 (((pickOf A.temp (n 2) (n 3))).hi), .int .i64 (((pickOf A.height (n 4) (n 5))).lo), .int .i64 (((pickOf A.height (n 4) (n 5))).hi), .int .i64 (((pickOf A.wind (n 6) (n 7))).lo), .int .i64 (((pickOf A.wind (n 6) (n 7))).hi)]) (i := 0) Try.sizeOf36 hS rfl rfl rfl rfl rfl rfl rfl rfl rfl fun W a hS => wl_nil ?_
  have hS := hS.sub (κ' := [(0, _), (1, _), (2, _), (3, _), (4, _), (33, _)]) (Sub.cons rfl (Sub.cons rfl (Sub.cons rfl (Sub.cons rfl (Sub.cons rfl (Sub.cons rfl Sub.nil))))))
  refine wpIn_ret ?_
  repeat (first | refine q_ret ?_ | refine q_block_ret ?_)
  refine hS.done (res1 (fn := Try.f52) (r1 := .cell 4 36) rfl (rv_agg (i := 0) Try.isAgg36 Try.sizeOf36 hS rfl rfl rfl)) ?_
  rfl


set_option maxHeartbeats 2000000 in
set_option maxRecDepth 100000 in
theorem law02_inside  (p : Span) (q : Span) {w : World}   : Ret Try.prog 53 [.agg (spanC p).toArray, .agg (spanC q).toArray] w (fun v _ => v = .bool (decide (q.lo ≤ p.lo) && decide (p.hi ≤ q.hi))) := by
  refine ret_start (n := 17) Try.func53 rfl rfl rfl (fun a hS => ?_)
  refine wpIn_seq ?_
  refine wpIn_region_lit ?_
  refine st_box_agg hS rfl rfl rfl fun W a b0 hS => st_box_agg hS rfl rfl rfl fun W a b1 hS => st_v hS rfl rfl (run_assign hS rfl) fun a hS => wl_nil ?_
  refine wpIn_seq ?_
  refine wpIn_region_lit ?_
  refine st_v hS rfl rfl (run_fieldAddr fa34_0 hS rfl) fun a hS => st_v hS rfl rfl (run_load_one (i := 1) Try.isAgg3 hS rfl rfl rfl) fun a hS => st_v hS rfl rfl (run_fieldAddr fa34_0 hS rfl) fun a hS => st_v hS rfl rfl (run_load_one (i := 0) Try.isAgg3 hS rfl rfl rfl) fun a hS => st_v hS rfl rfl (run_bin hS rfl rfl rfl) fun a hS => st_v hS rfl rfl (run_move hS rfl) fun a hS => ?_
  refine st_split (d := 10) hS rfl (fun hc1 hS => ?_) (fun hc1 hS => ?_)
  · skip
    try simp only [decide_eq_true_eq, decide_eq_false_iff_not, Bool.not_eq_true', Bool.not_eq_false', bne_iff_ne, beq_iff_eq, bne_eq_false_iff_eq, beq_eq_false_iff_ne, ne_eq, Int.not_le, Int.not_lt, ge_iff_le, gt_iff_lt] at hc1
    refine st_v hS (hS.wanted rfl rfl rfl) rfl (run_fieldAddr fa34_1 hS rfl) fun a hS => st_v hS (hS.wanted rfl rfl rfl) rfl (run_load_one (i := 1) Try.isAgg3 hS rfl rfl rfl) fun a hS => st_v hS (hS.wanted rfl rfl rfl) rfl (run_fieldAddr fa34_1 hS rfl) fun a hS => st_v hS (hS.wanted rfl rfl rfl) rfl (run_load_one (i := 0) Try.isAgg3 hS rfl rfl rfl) fun a hS => st_v hS (hS.wanted rfl rfl rfl) rfl (run_bin hS rfl rfl rfl) fun a hS => st_v hS rfl rfl (run_pick_t hS rfl rfl) fun a hS => st_v hS rfl rfl (run_assign hS rfl) fun a hS => wl_nil ?_
    refine wpIn_ret ?_
    repeat (first | refine q_ret ?_ | refine q_block_ret ?_)
    refine hS.done (res1 (fn := Try.f53) (r1 := .tmp 4) rfl (rv_tmp hS rfl)) ?_
    refine vb ?_; simp only [Bool.and_eq_true, decide_eq_true_eq, Bool.false_eq_true, false_iff]; omega
  · skip
    try simp only [decide_eq_true_eq, decide_eq_false_iff_not, Bool.not_eq_true', Bool.not_eq_false', bne_iff_ne, beq_iff_eq, bne_eq_false_iff_eq, beq_eq_false_iff_ne, ne_eq, Int.not_le, Int.not_lt, ge_iff_le, gt_iff_lt] at hc1
    refine st_skip hS (hS.unwanted rfl rfl rfl rfl) rfl fun a hS => st_skip hS (hS.unwanted rfl rfl rfl rfl) rfl fun a hS => st_skip hS (hS.unwanted rfl rfl rfl rfl) rfl fun a hS => st_skip hS (hS.unwanted rfl rfl rfl rfl) rfl fun a hS => st_skip hS (hS.unwanted rfl rfl rfl rfl) rfl fun a hS => st_v hS rfl rfl (run_pick_f hS rfl rfl) fun a hS => st_v hS rfl rfl (run_assign hS rfl) fun a hS => wl_nil ?_
    refine wpIn_ret ?_
    repeat (first | refine q_ret ?_ | refine q_block_ret ?_)
    refine hS.done (res1 (fn := Try.f53) (r1 := .tmp 4) rfl (rv_tmp hS rfl)) ?_
    refine vb ?_; simp only [Bool.and_eq_true, decide_eq_true_eq, Bool.false_eq_true, false_iff]; omega


theorem one_in {p q : Span} (h : spanIn q p) (h2 : q.lo ≤ q.hi) : spanIn (one q.lo) p := ⟨h.1, Int.le_trans h2 h.2⟩
theorem at_zero {t : Tab} {x y : Int} (h1 : tabOk t = true) (h2 : liesT t (one x) (one y) = true) : (if tabOk t then (if liesT t ⟨x, x⟩ ⟨y, y⟩ then 0 else 1) else 11 : Int) = 0 := by
  have h3 : liesT t ⟨x, x⟩ ⟨y, y⟩ = true := h2
  simp [h1, h3]


set_option maxHeartbeats 8000000 in
set_option maxRecDepth 100000 in
theorem law_RotorKept (n : Nat → Int) (s p : Span) (Vr : RV) (r : Rot) (A : Air) {w : World} {Fr : Nat → Prop} (hr : RotR Fr w Vr r)  : Ret Try.prog 5 [.agg (rotC Vr r).toArray, .agg (airC A).toArray, .agg (lessC n s p).toArray] w (fun v _ => v = .bool true) := by
  refine ret_start (n := 152) Try.func5 rfl rfl rfl (fun a hS => ?_)
  have Hr : ∀ W, Below w.heap.size w W → RotR Fr W Vr r := fun W hb => hr.move (keep_of hb)
  refine wpIn_seq ?_
  refine wpIn_region_lit ?_
  refine st_box_agg hS rfl rfl rfl fun W a b0 hS => st_box_agg hS rfl rfl rfl fun W a b1 hS => st_box_agg hS rfl rfl rfl fun W a b2 hS => st_v hS rfl rfl (run_assign hS rfl) fun a hS => wl_nil ?_
  refine wpIn_seq ?_
  refine wpIn_seq ?_
  refine wpIn_region_lit ?_
  refine st_v hS rfl rfl (run_load_all (i := 2) Try.isAgg27 Try.sizeOf27 hS rfl rfl rfl) fun a hS => st_call (law02_Far Vr r (Hr _ hS.below)) Try.call15 hS rfl rfl rfl fun v W a hR hB hlt hS => ?_
  subst hR
  refine st_v hS rfl rfl (run_move hS rfl) fun a hS => ?_
  refine st_split (d := 23) hS rfl (fun hc1 hS => ?_) (fun hc1 hS => ?_)
  · skip
    try simp only [decide_eq_true_eq, decide_eq_false_iff_not, Bool.not_eq_true', Bool.not_eq_false', bne_iff_ne, beq_iff_eq, bne_eq_false_iff_eq, beq_eq_false_iff_ne, ne_eq, Int.not_le, Int.not_lt, ge_iff_le, gt_iff_lt] at hc1
    refine st_skip hS (hS.unwanted rfl rfl rfl rfl) rfl fun a hS => st_skip hS (hS.unwanted rfl rfl rfl rfl) rfl fun a hS => st_skip hS (hS.unwanted rfl rfl rfl rfl) rfl fun a hS => st_skip hS (hS.unwanted rfl rfl rfl rfl) rfl fun a hS => st_v hS rfl rfl (run_pick_t hS rfl rfl) fun a hS => st_v hS rfl rfl (run_move hS rfl) fun a hS => st_skip hS (hS.unwanted rfl rfl rfl rfl) rfl fun a hS => st_skip hS (hS.unwanted rfl rfl rfl rfl) rfl fun a hS => st_skip hS (hS.unwanted rfl rfl rfl rfl) rfl fun a hS => st_skip hS (hS.unwanted rfl rfl rfl rfl) rfl fun a hS => st_v hS rfl rfl (run_pick_t hS rfl rfl) fun a hS => wl_nil ?_
    refine st_cond_t hS rfl ?_
    refine wpIn_seq ?_
    refine wpIn_region_lit ?_
    refine st_call (law02_works) Try.call16 hS rfl rfl rfl fun v W a hR hB hlt hS => ?_
    subst hR
    refine st_v hS rfl rfl (run_assign hS rfl) fun a hS => wl_nil ?_
    refine wpIn_ret ?_
    repeat (first | refine q_ret ?_ | refine q_block_ret ?_)
    refine hS.done (res1 (fn := Try.f5) (r1 := .tmp 6) rfl (rv_tmp hS rfl)) ?_
    rfl
  · skip
    try simp only [decide_eq_true_eq, decide_eq_false_iff_not, Bool.not_eq_true', Bool.not_eq_false', bne_iff_ne, beq_iff_eq, bne_eq_false_iff_eq, beq_eq_false_iff_ne, ne_eq, Int.not_le, Int.not_lt, ge_iff_le, gt_iff_lt] at hc1
    
    refine st_v hS (hS.wanted rfl rfl rfl) rfl (run_load_all (i := 2) Try.isAgg27 Try.sizeOf27 hS rfl rfl rfl) fun a hS => st_v hS (hS.wanted rfl rfl rfl) rfl (run_load_all (i := 1) Try.isAgg36 Try.sizeOf36 hS rfl rfl rfl) fun a hS => st_call (ref02_CheckAir Vr r A (Hr _ hS.below)) Try.call24 hS (hS.wanted rfl rfl rfl) rfl rfl fun v W a hR hB hlt hS => ?_
    subst hR
    refine st_v hS (hS.wanted rfl rfl rfl) rfl (run_bin hS rfl rfl rfl) fun a hS => st_v hS rfl rfl (run_pick_f hS rfl rfl) fun a hS => st_v hS rfl rfl (run_move hS rfl) fun a hS => ?_
    refine st_split (d := 29) hS rfl (fun hc2 hS => ?_) (fun hc2 hS => ?_)
    · skip
      try simp only [decide_eq_true_eq, decide_eq_false_iff_not, Bool.not_eq_true', Bool.not_eq_false', bne_iff_ne, beq_iff_eq, bne_eq_false_iff_eq, beq_eq_false_iff_ne, ne_eq, Int.not_le, Int.not_lt, ge_iff_le, gt_iff_lt] at hc2
      refine st_skip hS (hS.unwanted rfl rfl rfl rfl) rfl fun a hS => st_skip hS (hS.unwanted rfl rfl rfl rfl) rfl fun a hS => st_skip hS (hS.unwanted rfl rfl rfl rfl) rfl fun a hS => st_skip hS (hS.unwanted rfl rfl rfl rfl) rfl fun a hS => st_v hS rfl rfl (run_pick_t hS rfl rfl) fun a hS => wl_nil ?_
      refine st_cond_t hS rfl ?_
      refine wpIn_seq ?_
      refine wpIn_region_lit ?_
      refine st_call (law02_works) Try.call16 hS rfl rfl rfl fun v W a hR hB hlt hS => ?_
      subst hR
      refine st_v hS rfl rfl (run_assign hS rfl) fun a hS => wl_nil ?_
      refine wpIn_ret ?_
      repeat (first | refine q_ret ?_ | refine q_block_ret ?_)
      refine hS.done (res1 (fn := Try.f5) (r1 := .tmp 6) rfl (rv_tmp hS rfl)) ?_
      rfl
    · skip
      try simp only [decide_eq_true_eq, decide_eq_false_iff_not, Bool.not_eq_true', Bool.not_eq_false', bne_iff_ne, beq_iff_eq, bne_eq_false_iff_eq, beq_eq_false_iff_ne, ne_eq, Int.not_le, Int.not_lt, ge_iff_le, gt_iff_lt] at hc2
      
      refine st_v hS (hS.wanted rfl rfl rfl) rfl (run_fieldAddr fa46_2 hS rfl) fun a hS => st_v hS (hS.wanted rfl rfl rfl) rfl (run_load_agg (i := 0) (vs := [_, _]) Try.isAgg34 Try.sizeOf34 hS rfl rfl rfl ⟨rfl, rfl, trivial⟩) fun a hS => st_call (ref01_Valid p) Try.call25 hS (hS.wanted rfl rfl rfl) rfl rfl fun v W a hR hB hlt hS => ?_
      subst hR
      refine st_v hS (hS.wanted rfl rfl rfl) rfl (run_not hS rfl) fun a hS => st_v hS rfl rfl (run_pick_f hS rfl rfl) fun a hS => wl_nil ?_
      refine st_cond hS rfl (fun hc3 => ?_) (fun hc3 => ?_)
      · skip
        try simp only [decide_eq_true_eq, decide_eq_false_iff_not, Bool.not_eq_true', Bool.not_eq_false', bne_iff_ne, beq_iff_eq, bne_eq_false_iff_eq, beq_eq_false_iff_ne, ne_eq, Int.not_le, Int.not_lt, ge_iff_le, gt_iff_lt] at hc3
        refine wpIn_seq ?_
        refine wpIn_region_lit ?_
        refine st_call (law02_works) Try.call16 hS rfl rfl rfl fun v W a hR hB hlt hS => ?_
        subst hR
        refine st_v hS rfl rfl (run_assign hS rfl) fun a hS => wl_nil ?_
        refine wpIn_ret ?_
        repeat (first | refine q_ret ?_ | refine q_block_ret ?_)
        refine hS.done (res1 (fn := Try.f5) (r1 := .tmp 6) rfl (rv_tmp hS rfl)) ?_
        rfl
      · skip
        try simp only [decide_eq_true_eq, decide_eq_false_iff_not, Bool.not_eq_true', Bool.not_eq_false', bne_iff_ne, beq_iff_eq, bne_eq_false_iff_eq, beq_eq_false_iff_ne, ne_eq, Int.not_le, Int.not_lt, ge_iff_le, gt_iff_lt] at hc3
        obtain ⟨hrok, haok, _⟩ := errC_ok hc2
        obtain ⟨hA1, hA2, hA3, hA4⟩ := (airOk_iff A).1 haok
        have hRp := rot_p hrok
        have hpok : p.ok = true := by simpa using hc3
        refine wpIn_skip ?_
        refine wpIn_seq ?_
        refine wpIn_region_lit ?_
        refine st_v hS rfl rfl (run_load_all (i := 2) Try.isAgg27 Try.sizeOf27 hS rfl rfl rfl) fun a hS => ?_
        have hw0 := hS.below.size
        refine st_call (law02_own Vr r (Hr _ hS.below) (by exact farR_not hc1)) Try.call18 hS rfl rfl rfl fun v W a hR hB hlt hS => ?_
        
        obtain ⟨V0, rfl, hV0⟩ := hR
        have hS := hS.moreRot hw0 hlt hV0
        refine st_alloc_agg Try.zeroValue27 hS rfl rfl fun W a b3 hS => st_store (cs' := [.slice V0.hover.x.a r.hover.X.length V0.hover.x.c, .slice V0.hover.y.a r.hover.Y.length V0.hover.y.c, .slice V0.hover.v.a r.hover.V.length V0.hover.v.c, .slice V0.ground.x.a r.ground.X.length V0.ground.x.c, .slice V0.ground.y.a r.ground.Y.length V0.ground.y.c, .slice V0.ground.v.a r.ground.V.length V0.ground.v.c, .slice V0.level.x.a r.level.X.length V0.level.x.c, .slice V0.level.y.a r.level.Y.length V0.level.y.c, .slice V0.level.v.a r.level.V.length V0.level.v.c, .slice V0.power.x.a r.power.X.length V0.power.x.c, .slice V0.power.y.a r.power.Y.length V0.power.y.c, .slice V0.power.v.a r.power.V.length V0.power.v.c, .slice V0.never.x.a r.never.X.length V0.never.x.c, .slice V0.never.y.a r.never.Y.length V0.never.y.c, .slice V0.never.v.a r.never.V.length V0.never.v.c, .slice V0.low.x.a r.low.X.length V0.low.x.c, .slice V0.low.y.a r.low.Y.length V0.low.y.c, .slice V0.low.v.a r.low.V.length V0.low.v.c, .slice V0.high.x.a r.high.X.length V0.high.x.c, .slice V0.high.y.a r.high.Y.length V0.high.y.c, .slice V0.high.v.a r.high.V.length V0.high.v.c, .slice V0.glide.x.a r.glide.X.length V0.glide.x.c, .slice V0.glide.y.a r.glide.Y.length V0.glide.y.c, .slice V0.glide.v.a r.glide.V.length V0.glide.v.c, .int .i64 r.climb, .int .i64 r.burn]) (i := 0) Try.sizeOf27 hS rfl rfl rfl rfl rfl rfl rfl rfl rfl fun W a hS => wl_nil ?_
        refine wpIn_seq ?_
        refine wpIn_region_lit ?_
        refine st_v hS rfl rfl (run_load_all (i := 0) Try.isAgg27 Try.sizeOf27 hS rfl rfl rfl) fun a hS => st_v hS rfl rfl (run_load_all (i := 2) Try.isAgg36 Try.sizeOf36 hS rfl rfl rfl) fun a hS => st_v hS rfl rfl (run_fieldAddr fa46_2 hS rfl) fun a hS => st_v hS rfl rfl (run_load_agg (i := 1) (vs := [_, _]) Try.isAgg34 Try.sizeOf34 hS rfl rfl rfl ⟨rfl, rfl, trivial⟩) fun a hS => st_call (rotor_Margin V0 r A p ((fun _ h => h) _ hS.now.2)) Try.call22 hS rfl rfl rfl fun v W a hR hB hlt hS => ?_
        subst hR
        refine st_v hS rfl rfl (run_move hS rfl) fun a hS => st_v hS rfl rfl (run_extract hS rfl rfl) fun a hS => st_v hS rfl rfl (run_extract hS rfl rfl) fun a hS => st_v hS rfl rfl (run_assign hS rfl) fun a hS => st_v hS rfl rfl (run_assign hS rfl) fun a hS => wl_nil ?_
        refine wpIn_seq ?_
        refine wpIn_seq ?_
        refine wpIn_region_lit ?_
        refine st_v hS rfl rfl (run_move hS rfl) fun a hS => st_v hS rfl rfl (run_bin hS rfl rfl rfl) fun a hS => wl_nil ?_
        have hS := hS.sub (κ' := [(0, _), (1, _), (2, _), (3, _), (4, _), (5, _), (6, _), (7, _), (8, _), (9, _), (47, _)]) (Sub.cons rfl (Sub.cons rfl (Sub.cons rfl (Sub.cons rfl (Sub.cons rfl (Sub.cons rfl (Sub.cons rfl (Sub.cons rfl (Sub.cons rfl (Sub.cons rfl (Sub.cons rfl Sub.nil)))))))))))
        refine st_cond hS rfl (fun hc4 => ?_) (fun hc4 => ?_)
        · skip
          try simp only [decide_eq_true_eq, decide_eq_false_iff_not, Bool.not_eq_true', Bool.not_eq_false', bne_iff_ne, beq_iff_eq, bne_eq_false_iff_eq, beq_eq_false_iff_ne, ne_eq, Int.not_le, Int.not_lt, ge_iff_le, gt_iff_lt] at hc4
          
          refine wpIn_seq ?_
          refine wpIn_region_lit ?_
          refine st_v hS rfl rfl (run_move hS rfl) fun a hS => st_v hS rfl rfl (run_bin hS rfl rfl rfl) fun a hS => st_v hS rfl rfl (run_move hS rfl) fun a hS => ?_
          refine st_split (d := 50) hS rfl (fun hc5 hS => ?_) (fun hc5 hS => ?_)
          · skip
            try simp only [decide_eq_true_eq, decide_eq_false_iff_not, Bool.not_eq_true', Bool.not_eq_false', bne_iff_ne, beq_iff_eq, bne_eq_false_iff_eq, beq_eq_false_iff_ne, ne_eq, Int.not_le, Int.not_lt, ge_iff_le, gt_iff_lt] at hc5
            refine st_call (law02_works) Try.call16 hS (hS.wanted rfl rfl rfl) rfl rfl fun v W a hR hB hlt hS => ?_
            subst hR
            refine st_v hS rfl rfl (run_pick_t hS rfl rfl) fun a hS => st_v hS rfl rfl (run_assign hS rfl) fun a hS => wl_nil ?_
            refine wpIn_ret ?_
            repeat (first | refine q_ret ?_ | refine q_block_ret ?_)
            refine hS.done (res1 (fn := Try.f5) (r1 := .tmp 6) rfl (rv_tmp hS rfl)) ?_
            rfl
          · skip
            try simp only [decide_eq_true_eq, decide_eq_false_iff_not, Bool.not_eq_true', Bool.not_eq_false', bne_iff_ne, beq_iff_eq, bne_eq_false_iff_eq, beq_eq_false_iff_ne, ne_eq, Int.not_le, Int.not_lt, ge_iff_le, gt_iff_lt] at hc5
            rw [errC_if hrok haok] at hc4 hc5; cases h : onMargin r A p <;> simp [h] at hc4 hc5
        · skip
          try simp only [decide_eq_true_eq, decide_eq_false_iff_not, Bool.not_eq_true', Bool.not_eq_false', bne_iff_ne, beq_iff_eq, bne_eq_false_iff_eq, beq_eq_false_iff_ne, ne_eq, Int.not_le, Int.not_lt, ge_iff_le, gt_iff_lt] at hc4
          obtain ⟨_, _, hon⟩ := errC_ok hc4
          have hM1 : marginV r A p = marginOf r A p := if_pos hc4
          have hk := kept hrok haok hon (one_in (pick_in hA1 (n 0) (n 0)).2.1 (pick_in hA1 (n 0) (n 0)).2.2) (one_in (pick_in hA2 (n 1) (n 1)).2.1 (pick_in hA2 (n 1) (n 1)).2.2) (one_in (pick_in hA3 (n 2) (n 2)).2.1 (pick_in hA3 (n 2) (n 2)).2.2) (one_in (pick_in hA4 (n 3) (n 3)).2.1 (pick_in hA4 (n 3) (n 3)).2.2) (one_in (pick_in hpok (n 4) (n 4)).2.1 (pick_in hpok (n 4) (n 4)).2.2)
          have ha1 := at_zero hRp.power.1 hk.1.1; have ha2 := at_zero hRp.hover.1 hk.1.2.1; have ha3 := at_zero hRp.ground.1 hk.1.2.2
          have hpr := prod_in hk.2.2.1.1 hk.2.2.1.2 hk.2.2.2.1.1 hk.2.2.2.1.2
          have hk2 := hk.2.2.2.2
          rw [← hM1] at hk2
          have hfin := hk.2.1
          rw [← hM1] at hfin
          refine wpIn_skip ?_
          refine wpIn_seq ?_
          have hlt0 := fun B hB => hS.lt (b := B) hB
          refine st_mix (k := 33) (by kernel_rfl) (by kernel_rfl) hS rfl rfl ?_
          refine mx_v (fun a W hS hB => run_fieldAddr fa36_0 hS rfl) <| mx_v (fun a W hS hB => run_load_agg (i := 2) (vs := [_, _]) Try.isAgg34 Try.sizeOf34 hS rfl rfl rfl ⟨rfl, rfl, trivial⟩) <| mx_v (fun a W hS hB => run_fieldAddr fa46_0 hS rfl) <| mx_v (fun a W hS hB => run_idxArr (fun W => ia44_0 _ _ W) hS rfl rfl) <| mx_v (fun a W hS hB => run_load_one (i := 1) Try.isAgg3 hS rfl rfl rfl) <| mx_v (fun a W hS hB => run_fieldAddr fa46_0 hS rfl) <| mx_v (fun a W hS hB => run_idxArr (fun W => ia44_0 _ _ W) hS rfl rfl) <| mx_v (fun a W hS hB => run_load_one (i := 1) Try.isAgg3 hS rfl rfl rfl) <| mx_call Try.call26 rfl (fun a W hS hB => law02_pick A.weight (by exact hA1)) <| mx_v (fun a W hS hB => run_field (fun W => fd34_0 _ _ W) hS rfl) <| mx_v (fun a W hS hB => run_fieldAddr fa36_1 hS rfl) <| mx_v (fun a W hS hB => run_load_agg (i := 2) (vs := [_, _]) Try.isAgg34 Try.sizeOf34 hS rfl rfl rfl ⟨rfl, rfl, trivial⟩) <| mx_v (fun a W hS hB => run_fieldAddr fa46_0 hS rfl) <| mx_v (fun a W hS hB => run_idxArr (fun W => ia44_1 _ _ W) hS rfl rfl) <| mx_v (fun a W hS hB => run_load_one (i := 1) Try.isAgg3 hS rfl rfl rfl) <| mx_v (fun a W hS hB => run_fieldAddr fa46_0 hS rfl) <| mx_v (fun a W hS hB => run_idxArr (fun W => ia44_1 _ _ W) hS rfl rfl) <| mx_v (fun a W hS hB => run_load_one (i := 1) Try.isAgg3 hS rfl rfl rfl) <| mx_call Try.call26 rfl (fun a W hS hB => law02_pick A.temp (by exact hA2)) <| mx_v (fun a W hS hB => run_field (fun W => fd34_0 _ _ W) hS rfl) <| mx_v (fun a W hS hB => run_fieldAddr fa36_2 hS rfl) <| mx_v (fun a W hS hB => run_load_agg (i := 2) (vs := [_, _]) Try.isAgg34 Try.sizeOf34 hS rfl rfl rfl ⟨rfl, rfl, trivial⟩) <| mx_v (fun a W hS hB => run_fieldAddr fa46_0 hS rfl) <| mx_v (fun a W hS hB => run_idxArr (fun W => ia44_2 _ _ W) hS rfl rfl) <| mx_v (fun a W hS hB => run_load_one (i := 1) Try.isAgg3 hS rfl rfl rfl) <| mx_v (fun a W hS hB => run_fieldAddr fa46_0 hS rfl) <| mx_v (fun a W hS hB => run_idxArr (fun W => ia44_2 _ _ W) hS rfl rfl) <| mx_v (fun a W hS hB => run_load_one (i := 1) Try.isAgg3 hS rfl rfl rfl) <| mx_call Try.call26 rfl (fun a W hS hB => law02_pick A.height (by exact hA3)) <| mx_v (fun a W hS hB => run_field (fun W => fd34_0 _ _ W) hS rfl) <| mx_v (fun a W hS hB => run_assign hS rfl) <| mx_v (fun a W hS hB => run_assign hS rfl) <| mx_v (fun a W hS hB => run_assign hS rfl) <| ?_
          refine mx_end fun a W bs us hS hB hL => ?_
          dsimp only [kall, ball, List.cons_append, List.nil_append] at hS
          refine wl_nil ?_
          have hS := hS.sub (κ' := [(0, _), (1, _), (2, _), (3, _), (4, _), (5, _), (6, _), (7, _), (8, _), (9, _), (10, _), (11, _), (12, _)]) (Sub.cons rfl (Sub.cons rfl (Sub.cons rfl (Sub.cons rfl (Sub.cons rfl (Sub.cons rfl (Sub.cons rfl (Sub.cons rfl (Sub.cons rfl (Sub.cons rfl (Sub.cons rfl (Sub.cons rfl (Sub.cons rfl Sub.nil)))))))))))))
          refine wpIn_seq ?_
          have hlt0 := fun B hB => hS.lt (b := B) hB
          refine st_mix (k := 22) (by kernel_rfl) (by kernel_rfl) hS rfl rfl ?_
          refine mx_v (fun a W hS hB => run_fieldAddr fa36_3 hS rfl) <| mx_v (fun a W hS hB => run_load_agg (i := 2) (vs := [_, _]) Try.isAgg34 Try.sizeOf34 hS rfl rfl rfl ⟨rfl, rfl, trivial⟩) <| mx_v (fun a W hS hB => run_fieldAddr fa46_0 hS rfl) <| mx_v (fun a W hS hB => run_idxArr (fun W => ia44_3 _ _ W) hS rfl rfl) <| mx_v (fun a W hS hB => run_load_one (i := 1) Try.isAgg3 hS rfl rfl rfl) <| mx_v (fun a W hS hB => run_fieldAddr fa46_0 hS rfl) <| mx_v (fun a W hS hB => run_idxArr (fun W => ia44_3 _ _ W) hS rfl rfl) <| mx_v (fun a W hS hB => run_load_one (i := 1) Try.isAgg3 hS rfl rfl rfl) <| mx_call Try.call26 rfl (fun a W hS hB => law02_pick A.wind (by exact hA4)) <| mx_v (fun a W hS hB => run_field (fun W => fd34_0 _ _ W) hS rfl) <| mx_v (fun a W hS hB => run_fieldAddr fa46_2 hS rfl) <| mx_v (fun a W hS hB => run_load_agg (i := 1) (vs := [_, _]) Try.isAgg34 Try.sizeOf34 hS rfl rfl rfl ⟨rfl, rfl, trivial⟩) <| mx_v (fun a W hS hB => run_fieldAddr fa46_0 hS rfl) <| mx_v (fun a W hS hB => run_idxArr (fun W => ia44_4 _ _ W) hS rfl rfl) <| mx_v (fun a W hS hB => run_load_one (i := 1) Try.isAgg3 hS rfl rfl rfl) <| mx_v (fun a W hS hB => run_fieldAddr fa46_0 hS rfl) <| mx_v (fun a W hS hB => run_idxArr (fun W => ia44_4 _ _ W) hS rfl rfl) <| mx_v (fun a W hS hB => run_load_one (i := 1) Try.isAgg3 hS rfl rfl rfl) <| mx_call Try.call26 rfl (fun a W hS hB => law02_pick p (by exact hpok)) <| mx_v (fun a W hS hB => run_field (fun W => fd34_0 _ _ W) hS rfl) <| mx_v (fun a W hS hB => run_assign hS rfl) <| mx_v (fun a W hS hB => run_assign hS rfl) <| ?_
          refine mx_end fun a W bs us hS hB hL => ?_
          dsimp only [kall, ball, List.cons_append, List.nil_append] at hS
          refine wl_nil ?_
          refine wpIn_seq ?_
          refine wpIn_region_lit ?_
          refine st_v hS rfl rfl (run_fieldAddr fa27_3 hS rfl) fun a hS => st_v hS rfl rfl (run_load_agg (i := 0) (vs := [_, _, _]) Try.isAgg25 Try.sizeOf25 hS rfl rfl rfl ⟨rfl, rfl, rfl, trivial⟩) fun a hS => st_v hS rfl rfl (run_move hS rfl) fun a hS => st_v hS rfl rfl (run_move hS rfl) fun a hS => st_call (spans_At V0.power r.power (hS.now.2).power) Try.call27 hS rfl rfl rfl fun v W a hR hB hlt hS => ?_
          rw [if_pos ha1, ha1] at hR
          subst hR
          refine st_v hS rfl rfl (run_move hS rfl) fun a hS => st_v hS rfl rfl (run_extract hS rfl rfl) fun a hS => st_v hS rfl rfl (run_extract hS rfl rfl) fun a hS => st_alloc_agg Try.zeroValue34 hS rfl rfl fun W a b4 hS => st_store (i := 0) Try.sizeOf34 hS rfl rfl rfl rfl rfl rfl rfl rfl rfl fun W a hS => st_v hS rfl rfl (run_assign hS rfl) fun a hS => wl_nil ?_
          have hS := hS.sub (κ' := [(0, _), (1, _), (2, _), (3, _), (4, _), (5, _), (6, _), (7, _), (8, _), (9, _), (10, _), (11, _), (12, _), (13, _), (14, _), (15, _), (16, _)]) (Sub.cons rfl (Sub.cons rfl (Sub.cons rfl (Sub.cons rfl (Sub.cons rfl (Sub.cons rfl (Sub.cons rfl (Sub.cons rfl (Sub.cons rfl (Sub.cons rfl (Sub.cons rfl (Sub.cons rfl (Sub.cons rfl (Sub.cons rfl (Sub.cons rfl (Sub.cons rfl (Sub.cons rfl Sub.nil)))))))))))))))))
          refine wpIn_seq ?_
          refine wpIn_region_lit ?_
          refine st_v hS rfl rfl (run_fieldAddr fa27_0 hS rfl) fun a hS => st_v hS rfl rfl (run_load_agg (i := 1) (vs := [_, _, _]) Try.isAgg25 Try.sizeOf25 hS rfl rfl rfl ⟨rfl, rfl, rfl, trivial⟩) fun a hS => st_v hS rfl rfl (run_move hS rfl) fun a hS => st_v hS rfl rfl (run_move hS rfl) fun a hS => st_call (spans_At V0.hover r.hover (hS.now.2).hover) Try.call27 hS rfl rfl rfl fun v W a hR hB hlt hS => ?_
          rw [if_pos ha2, ha2] at hR
          subst hR
          refine st_v hS rfl rfl (run_move hS rfl) fun a hS => st_v hS rfl rfl (run_extract hS rfl rfl) fun a hS => st_v hS rfl rfl (run_extract hS rfl rfl) fun a hS => st_alloc_agg Try.zeroValue34 hS rfl rfl fun W a b5 hS => st_store (i := 0) Try.sizeOf34 hS rfl rfl rfl rfl rfl rfl rfl rfl rfl fun W a hS => st_v hS rfl rfl (run_assign hS rfl) fun a hS => wl_nil ?_
          refine wpIn_seq ?_
          refine wpIn_region_lit ?_
          refine st_v hS rfl rfl (run_fieldAddr fa27_1 hS rfl) fun a hS => st_v hS rfl rfl (run_load_agg (i := 2) (vs := [_, _, _]) Try.isAgg25 Try.sizeOf25 hS rfl rfl rfl ⟨rfl, rfl, rfl, trivial⟩) fun a hS => st_v hS rfl rfl (run_move hS rfl) fun a hS => st_v hS rfl rfl (run_move hS rfl) fun a hS => st_call (spans_At V0.ground r.ground (hS.now.2).ground) Try.call27 hS rfl rfl rfl fun v W a hR hB hlt hS => ?_
          rw [if_pos ha3, ha3] at hR
          subst hR
          refine st_v hS rfl rfl (run_move hS rfl) fun a hS => st_v hS rfl rfl (run_extract hS rfl rfl) fun a hS => st_v hS rfl rfl (run_extract hS rfl rfl) fun a hS => st_alloc_agg Try.zeroValue34 hS rfl rfl fun W a b6 hS => st_store (i := 0) Try.sizeOf34 hS rfl rfl rfl rfl rfl rfl rfl rfl rfl fun W a hS => st_v hS rfl rfl (run_assign hS rfl) fun a hS => wl_nil ?_
          refine wpIn_seq ?_
          refine wpIn_seq ?_
          refine wpIn_region_lit ?_
          refine st_v hS rfl rfl (run_move hS rfl) fun a hS => st_v hS rfl rfl (run_bin hS rfl rfl rfl) fun a hS => st_v hS rfl rfl (run_move hS rfl) fun a hS => ?_
          refine st_split (d := 129) hS rfl (fun hc6 hS => ?_) (fun hc6 hS => ?_)
          · skip
            try simp only [decide_eq_true_eq, decide_eq_false_iff_not, Bool.not_eq_true', Bool.not_eq_false', bne_iff_ne, beq_iff_eq, bne_eq_false_iff_eq, beq_eq_false_iff_ne, ne_eq, Int.not_le, Int.not_lt, ge_iff_le, gt_iff_lt] at hc6
            simp at hc6
          · skip
            try simp only [decide_eq_true_eq, decide_eq_false_iff_not, Bool.not_eq_true', Bool.not_eq_false', bne_iff_ne, beq_iff_eq, bne_eq_false_iff_eq, beq_eq_false_iff_ne, ne_eq, Int.not_le, Int.not_lt, ge_iff_le, gt_iff_lt] at hc6
            
            refine st_v hS (hS.wanted rfl rfl rfl) rfl (run_move hS rfl) fun a hS => st_v hS (hS.wanted rfl rfl rfl) rfl (run_bin hS rfl rfl rfl) fun a hS => st_v hS rfl rfl (run_pick_f hS rfl rfl) fun a hS => st_v hS rfl rfl (run_move hS rfl) fun a hS => ?_
            refine st_split (d := 133) hS rfl (fun hc7 hS => ?_) (fun hc7 hS => ?_)
            · skip
              try simp only [decide_eq_true_eq, decide_eq_false_iff_not, Bool.not_eq_true', Bool.not_eq_false', bne_iff_ne, beq_iff_eq, bne_eq_false_iff_eq, beq_eq_false_iff_ne, ne_eq, Int.not_le, Int.not_lt, ge_iff_le, gt_iff_lt] at hc7
              simp at hc7
            · skip
              try simp only [decide_eq_true_eq, decide_eq_false_iff_not, Bool.not_eq_true', Bool.not_eq_false', bne_iff_ne, beq_iff_eq, bne_eq_false_iff_eq, beq_eq_false_iff_ne, ne_eq, Int.not_le, Int.not_lt, ge_iff_le, gt_iff_lt] at hc7
              
              refine st_v hS (hS.wanted rfl rfl rfl) rfl (run_move hS rfl) fun a hS => st_v hS (hS.wanted rfl rfl rfl) rfl (run_bin hS rfl rfl rfl) fun a hS => st_v hS rfl rfl (run_pick_f hS rfl rfl) fun a hS => wl_nil ?_
              have hS := hS.sub (κ' := [(0, _), (1, _), (2, _), (3, _), (4, _), (5, _), (6, _), (7, _), (8, _), (9, _), (10, _), (11, _), (12, _), (13, _), (14, _), (15, _), (16, _), (17, _), (18, _), (19, _), (20, _), (136, _)]) (Sub.cons rfl (Sub.cons rfl (Sub.cons rfl (Sub.cons rfl (Sub.cons rfl (Sub.cons rfl (Sub.cons rfl (Sub.cons rfl (Sub.cons rfl (Sub.cons rfl (Sub.cons rfl (Sub.cons rfl (Sub.cons rfl (Sub.cons rfl (Sub.cons rfl (Sub.cons rfl (Sub.cons rfl (Sub.cons rfl (Sub.cons rfl (Sub.cons rfl (Sub.cons rfl (Sub.cons rfl Sub.nil))))))))))))))))))))))
              refine st_cond hS rfl (fun hc8 => ?_) (fun hc8 => ?_)
              · skip
                try simp only [decide_eq_true_eq, decide_eq_false_iff_not, Bool.not_eq_true', Bool.not_eq_false', bne_iff_ne, beq_iff_eq, bne_eq_false_iff_eq, beq_eq_false_iff_ne, ne_eq, Int.not_le, Int.not_lt, ge_iff_le, gt_iff_lt] at hc8
                simp at hc8
              · skip
                try simp only [decide_eq_true_eq, decide_eq_false_iff_not, Bool.not_eq_true', Bool.not_eq_false', bne_iff_ne, beq_iff_eq, bne_eq_false_iff_eq, beq_eq_false_iff_ne, ne_eq, Int.not_le, Int.not_lt, ge_iff_le, gt_iff_lt] at hc8
                
                refine wpIn_skip ?_
                refine wpIn_seq ?_
                refine wpIn_region_lit ?_
                refine st_v hS rfl rfl (run_fieldAddr fa34_0 hS rfl) fun a hS => st_v hS rfl rfl (run_load_one (i := 2) Try.isAgg3 hS rfl rfl rfl) fun a hS => st_v hS rfl rfl (run_mul (t := ((lowAt r.power (pickOf A.temp (n 1) (n 1)).lo (pickOf A.height (n 2) (n 2)).lo)) * 100) hS rfl rfl (rfl) (by omega)) fun a hS => st_v hS rfl rfl (run_fieldAddr fa34_1 hS rfl) fun a hS => st_v hS rfl rfl (run_load_one (i := 1) Try.isAgg3 hS rfl rfl rfl) fun a hS => st_v hS rfl rfl (run_fieldAddr fa34_1 hS rfl) fun a hS => st_v hS rfl rfl (run_load_one (i := 0) Try.isAgg3 hS rfl rfl rfl) fun a hS => st_v hS rfl rfl (run_mul (t := ((highAt r.hover (pickOf A.weight (n 0) (n 0)).lo (pickOf A.temp (n 1) (n 1)).lo)) * ((highAt r.ground (pickOf p (n 4) (n 4)).lo (pickOf A.wind (n 3) (n 3)).lo))) hS rfl rfl (rfl) (by omega)) fun a hS => st_v hS rfl rfl (run_move hS rfl) fun a hS => st_v hS rfl rfl (run_mul (t := (marginV r A p) * 100) hS rfl rfl (rfl) (by omega)) fun a hS => st_v hS rfl rfl (run_add (t := (((highAt r.hover (pickOf A.weight (n 0) (n 0)).lo (pickOf A.temp (n 1) (n 1)).lo)) * ((highAt r.ground (pickOf p (n 4) (n 4)).lo (pickOf A.wind (n 3) (n 3)).lo))) + ((marginV r A p) * 100)) hS rfl rfl (rfl) (by omega) (by omega)) fun a hS => st_v hS rfl rfl (run_bin hS rfl rfl rfl) fun a hS => st_v hS rfl rfl (run_move hS rfl) fun a hS => ?_
                refine st_split (d := 149) hS rfl (fun hc9 hS => ?_) (fun hc9 hS => ?_)
                · skip
                  try simp only [decide_eq_true_eq, decide_eq_false_iff_not, Bool.not_eq_true', Bool.not_eq_false', bne_iff_ne, beq_iff_eq, bne_eq_false_iff_eq, beq_eq_false_iff_ne, ne_eq, Int.not_le, Int.not_lt, ge_iff_le, gt_iff_lt] at hc9
                  
                  refine st_call (law02_works) Try.call16 hS (hS.wanted rfl rfl rfl) rfl rfl fun v W a hR hB hlt hS => ?_
                  subst hR
                  refine st_v hS rfl rfl (run_pick_t hS rfl rfl) fun a hS => st_v hS rfl rfl (run_assign hS rfl) fun a hS => wl_nil ?_
                  refine wpIn_ret ?_
                  repeat (first | refine q_ret ?_ | refine q_block_ret ?_)
                  refine hS.done (res1 (fn := Try.f5) (r1 := .tmp 6) rfl (rv_tmp hS rfl)) ?_
                  rfl
                · skip
                  try simp only [decide_eq_true_eq, decide_eq_false_iff_not, Bool.not_eq_true', Bool.not_eq_false', bne_iff_ne, beq_iff_eq, bne_eq_false_iff_eq, beq_eq_false_iff_ne, ne_eq, Int.not_le, Int.not_lt, ge_iff_le, gt_iff_lt] at hc9
                  first | exact absurd hfin hc9 | exact absurd hfin (Int.not_le.2 hc9) | omega


set_option maxHeartbeats 8000000 in
set_option maxRecDepth 100000 in
theorem law_RotorEach (n : Nat → Int) (s p : Span) (Vr : RV) (r : Rot) (A : Air) {w : World} {Fr : Nat → Prop} (hr : RotR Fr w Vr r)  : Ret Try.prog 14 [.agg (rotC Vr r).toArray, .agg (airC A).toArray, .agg (lessC n s p).toArray] w (fun v _ => v = .bool true) := by
  refine ret_start (n := 214) Try.func14 rfl rfl rfl (fun a hS => ?_)
  have Hr : ∀ W, Below w.heap.size w W → RotR Fr W Vr r := fun W hb => hr.move (keep_of hb)
  refine wpIn_seq ?_
  refine wpIn_region_lit ?_
  refine st_box_agg hS rfl rfl rfl fun W a b0 hS => st_box_agg hS rfl rfl rfl fun W a b1 hS => st_box_agg hS rfl rfl rfl fun W a b2 hS => st_v hS rfl rfl (run_assign hS rfl) fun a hS => wl_nil ?_
  refine wpIn_seq ?_
  refine wpIn_seq ?_
  refine wpIn_region_lit ?_
  refine st_v hS rfl rfl (run_load_all (i := 2) Try.isAgg27 Try.sizeOf27 hS rfl rfl rfl) fun a hS => st_call (law02_Far Vr r (Hr _ hS.below)) Try.call15 hS rfl rfl rfl fun v W a hR hB hlt hS => ?_
  subst hR
  refine st_v hS rfl rfl (run_move hS rfl) fun a hS => ?_
  refine st_split (d := 33) hS rfl (fun hc1 hS => ?_) (fun hc1 hS => ?_)
  · skip
    try simp only [decide_eq_true_eq, decide_eq_false_iff_not, Bool.not_eq_true', Bool.not_eq_false', bne_iff_ne, beq_iff_eq, bne_eq_false_iff_eq, beq_eq_false_iff_ne, ne_eq, Int.not_le, Int.not_lt, ge_iff_le, gt_iff_lt] at hc1
    refine st_skip hS (hS.unwanted rfl rfl rfl rfl) rfl fun a hS => st_skip hS (hS.unwanted rfl rfl rfl rfl) rfl fun a hS => st_skip hS (hS.unwanted rfl rfl rfl rfl) rfl fun a hS => st_skip hS (hS.unwanted rfl rfl rfl rfl) rfl fun a hS => st_v hS rfl rfl (run_pick_t hS rfl rfl) fun a hS => st_v hS rfl rfl (run_move hS rfl) fun a hS => st_skip hS (hS.unwanted rfl rfl rfl rfl) rfl fun a hS => st_skip hS (hS.unwanted rfl rfl rfl rfl) rfl fun a hS => st_skip hS (hS.unwanted rfl rfl rfl rfl) rfl fun a hS => st_skip hS (hS.unwanted rfl rfl rfl rfl) rfl fun a hS => st_v hS rfl rfl (run_pick_t hS rfl rfl) fun a hS => st_v hS rfl rfl (run_move hS rfl) fun a hS => st_skip hS (hS.unwanted rfl rfl rfl rfl) rfl fun a hS => st_skip hS (hS.unwanted rfl rfl rfl rfl) rfl fun a hS => st_skip hS (hS.unwanted rfl rfl rfl rfl) rfl fun a hS => st_skip hS (hS.unwanted rfl rfl rfl rfl) rfl fun a hS => st_v hS rfl rfl (run_pick_t hS rfl rfl) fun a hS => wl_nil ?_
    refine st_cond_t hS rfl ?_
    refine wpIn_seq ?_
    refine wpIn_region_lit ?_
    refine st_call (law02_works) Try.call16 hS rfl rfl rfl fun v W a hR hB hlt hS => ?_
    subst hR
    refine st_v hS rfl rfl (run_assign hS rfl) fun a hS => wl_nil ?_
    refine wpIn_ret ?_
    repeat (first | refine q_ret ?_ | refine q_block_ret ?_)
    refine hS.done (res1 (fn := Try.f14) (r1 := .tmp 6) rfl (rv_tmp hS rfl)) ?_
    rfl
  · skip
    try simp only [decide_eq_true_eq, decide_eq_false_iff_not, Bool.not_eq_true', Bool.not_eq_false', bne_iff_ne, beq_iff_eq, bne_eq_false_iff_eq, beq_eq_false_iff_ne, ne_eq, Int.not_le, Int.not_lt, ge_iff_le, gt_iff_lt] at hc1
    
    refine st_v hS (hS.wanted rfl rfl rfl) rfl (run_load_all (i := 2) Try.isAgg27 Try.sizeOf27 hS rfl rfl rfl) fun a hS => st_v hS (hS.wanted rfl rfl rfl) rfl (run_load_all (i := 1) Try.isAgg36 Try.sizeOf36 hS rfl rfl rfl) fun a hS => st_call (ref02_CheckAir Vr r A (Hr _ hS.below)) Try.call24 hS (hS.wanted rfl rfl rfl) rfl rfl fun v W a hR hB hlt hS => ?_
    subst hR
    refine st_v hS (hS.wanted rfl rfl rfl) rfl (run_bin hS rfl rfl rfl) fun a hS => st_v hS rfl rfl (run_pick_f hS rfl rfl) fun a hS => st_v hS rfl rfl (run_move hS rfl) fun a hS => ?_
    refine st_split (d := 39) hS rfl (fun hc2 hS => ?_) (fun hc2 hS => ?_)
    · skip
      try simp only [decide_eq_true_eq, decide_eq_false_iff_not, Bool.not_eq_true', Bool.not_eq_false', bne_iff_ne, beq_iff_eq, bne_eq_false_iff_eq, beq_eq_false_iff_ne, ne_eq, Int.not_le, Int.not_lt, ge_iff_le, gt_iff_lt] at hc2
      refine st_skip hS (hS.unwanted rfl rfl rfl rfl) rfl fun a hS => st_skip hS (hS.unwanted rfl rfl rfl rfl) rfl fun a hS => st_skip hS (hS.unwanted rfl rfl rfl rfl) rfl fun a hS => st_skip hS (hS.unwanted rfl rfl rfl rfl) rfl fun a hS => st_v hS rfl rfl (run_pick_t hS rfl rfl) fun a hS => st_v hS rfl rfl (run_move hS rfl) fun a hS => st_skip hS (hS.unwanted rfl rfl rfl rfl) rfl fun a hS => st_skip hS (hS.unwanted rfl rfl rfl rfl) rfl fun a hS => st_skip hS (hS.unwanted rfl rfl rfl rfl) rfl fun a hS => st_skip hS (hS.unwanted rfl rfl rfl rfl) rfl fun a hS => st_v hS rfl rfl (run_pick_t hS rfl rfl) fun a hS => wl_nil ?_
      refine st_cond_t hS rfl ?_
      refine wpIn_seq ?_
      refine wpIn_region_lit ?_
      refine st_call (law02_works) Try.call16 hS rfl rfl rfl fun v W a hR hB hlt hS => ?_
      subst hR
      refine st_v hS rfl rfl (run_assign hS rfl) fun a hS => wl_nil ?_
      refine wpIn_ret ?_
      repeat (first | refine q_ret ?_ | refine q_block_ret ?_)
      refine hS.done (res1 (fn := Try.f14) (r1 := .tmp 6) rfl (rv_tmp hS rfl)) ?_
      rfl
    · skip
      try simp only [decide_eq_true_eq, decide_eq_false_iff_not, Bool.not_eq_true', Bool.not_eq_false', bne_iff_ne, beq_iff_eq, bne_eq_false_iff_eq, beq_eq_false_iff_ne, ne_eq, Int.not_le, Int.not_lt, ge_iff_le, gt_iff_lt] at hc2
      
      refine st_v hS (hS.wanted rfl rfl rfl) rfl (run_fieldAddr fa46_1 hS rfl) fun a hS => st_v hS (hS.wanted rfl rfl rfl) rfl (run_load_agg (i := 0) (vs := [_, _]) Try.isAgg34 Try.sizeOf34 hS rfl rfl rfl ⟨rfl, rfl, trivial⟩) fun a hS => st_call (ref01_Valid s) Try.call25 hS (hS.wanted rfl rfl rfl) rfl rfl fun v W a hR hB hlt hS => ?_
      subst hR
      refine st_v hS (hS.wanted rfl rfl rfl) rfl (run_not hS rfl) fun a hS => st_v hS rfl rfl (run_pick_f hS rfl rfl) fun a hS => st_v hS rfl rfl (run_move hS rfl) fun a hS => ?_
      refine st_split (d := 45) hS rfl (fun hc3 hS => ?_) (fun hc3 hS => ?_)
      · skip
        try simp only [decide_eq_true_eq, decide_eq_false_iff_not, Bool.not_eq_true', Bool.not_eq_false', bne_iff_ne, beq_iff_eq, bne_eq_false_iff_eq, beq_eq_false_iff_ne, ne_eq, Int.not_le, Int.not_lt, ge_iff_le, gt_iff_lt] at hc3
        refine st_skip hS (hS.unwanted rfl rfl rfl rfl) rfl fun a hS => st_skip hS (hS.unwanted rfl rfl rfl rfl) rfl fun a hS => st_skip hS (hS.unwanted rfl rfl rfl rfl) rfl fun a hS => st_skip hS (hS.unwanted rfl rfl rfl rfl) rfl fun a hS => st_v hS rfl rfl (run_pick_t hS rfl rfl) fun a hS => wl_nil ?_
        refine st_cond_t hS rfl ?_
        refine wpIn_seq ?_
        refine wpIn_region_lit ?_
        refine st_call (law02_works) Try.call16 hS rfl rfl rfl fun v W a hR hB hlt hS => ?_
        subst hR
        refine st_v hS rfl rfl (run_assign hS rfl) fun a hS => wl_nil ?_
        refine wpIn_ret ?_
        repeat (first | refine q_ret ?_ | refine q_block_ret ?_)
        refine hS.done (res1 (fn := Try.f14) (r1 := .tmp 6) rfl (rv_tmp hS rfl)) ?_
        rfl
      · skip
        try simp only [decide_eq_true_eq, decide_eq_false_iff_not, Bool.not_eq_true', Bool.not_eq_false', bne_iff_ne, beq_iff_eq, bne_eq_false_iff_eq, beq_eq_false_iff_ne, ne_eq, Int.not_le, Int.not_lt, ge_iff_le, gt_iff_lt] at hc3
        
        refine st_v hS (hS.wanted rfl rfl rfl) rfl (run_fieldAddr fa46_2 hS rfl) fun a hS => st_v hS (hS.wanted rfl rfl rfl) rfl (run_load_agg (i := 0) (vs := [_, _]) Try.isAgg34 Try.sizeOf34 hS rfl rfl rfl ⟨rfl, rfl, trivial⟩) fun a hS => st_call (ref01_Valid p) Try.call25 hS (hS.wanted rfl rfl rfl) rfl rfl fun v W a hR hB hlt hS => ?_
        subst hR
        refine st_v hS (hS.wanted rfl rfl rfl) rfl (run_not hS rfl) fun a hS => st_v hS rfl rfl (run_pick_f hS rfl rfl) fun a hS => wl_nil ?_
        refine st_cond hS rfl (fun hc4 => ?_) (fun hc4 => ?_)
        · skip
          try simp only [decide_eq_true_eq, decide_eq_false_iff_not, Bool.not_eq_true', Bool.not_eq_false', bne_iff_ne, beq_iff_eq, bne_eq_false_iff_eq, beq_eq_false_iff_ne, ne_eq, Int.not_le, Int.not_lt, ge_iff_le, gt_iff_lt] at hc4
          refine wpIn_seq ?_
          refine wpIn_region_lit ?_
          refine st_call (law02_works) Try.call16 hS rfl rfl rfl fun v W a hR hB hlt hS => ?_
          subst hR
          refine st_v hS rfl rfl (run_assign hS rfl) fun a hS => wl_nil ?_
          refine wpIn_ret ?_
          repeat (first | refine q_ret ?_ | refine q_block_ret ?_)
          refine hS.done (res1 (fn := Try.f14) (r1 := .tmp 6) rfl (rv_tmp hS rfl)) ?_
          rfl
        · skip
          try simp only [decide_eq_true_eq, decide_eq_false_iff_not, Bool.not_eq_true', Bool.not_eq_false', bne_iff_ne, beq_iff_eq, bne_eq_false_iff_eq, beq_eq_false_iff_ne, ne_eq, Int.not_le, Int.not_lt, ge_iff_le, gt_iff_lt] at hc4
          obtain ⟨hrok, haok, _⟩ := errC_ok hc2
          obtain ⟨hA1, hA2, hA3, hA4⟩ := (airOk_iff A).1 haok
          have hsok : s.ok = true := by simpa using hc3
          have hpok : p.ok = true := by simpa using hc4
          have F1 := less_needs (r := r) (A := A) hpok n (n 8) (n 9)
          have F2 := less_has (r := r) (A := A) n
          have F3 := less_margin (r := r) (A := A) hpok n (n 8) (n 9)
          have F4 := less_flow (r := r) (A := A) hsok n (n 10) (n 11)
          have F5 := less_wake (r := r) (A := A) hsok hpok n (n 10) (n 11) (n 8) (n 9)
          refine wpIn_skip ?_
          refine wpIn_seq ?_
          refine wpIn_region_lit ?_
          refine st_v hS rfl rfl (run_load_all (i := 2) Try.isAgg27 Try.sizeOf27 hS rfl rfl rfl) fun a hS => ?_
          have hw0 := hS.below.size
          refine st_call (law02_own Vr r (Hr _ hS.below) (by exact farR_not hc1)) Try.call18 hS rfl rfl rfl fun v W a hR hB hlt hS => ?_
          
          obtain ⟨V0, rfl, hV0⟩ := hR
          have hS := hS.moreRot hw0 hlt hV0
          refine st_alloc_agg Try.zeroValue27 hS rfl rfl fun W a b3 hS => st_store (cs' := [.slice V0.hover.x.a r.hover.X.length V0.hover.x.c, .slice V0.hover.y.a r.hover.Y.length V0.hover.y.c, .slice V0.hover.v.a r.hover.V.length V0.hover.v.c, .slice V0.ground.x.a r.ground.X.length V0.ground.x.c, .slice V0.ground.y.a r.ground.Y.length V0.ground.y.c, .slice V0.ground.v.a r.ground.V.length V0.ground.v.c, .slice V0.level.x.a r.level.X.length V0.level.x.c, .slice V0.level.y.a r.level.Y.length V0.level.y.c, .slice V0.level.v.a r.level.V.length V0.level.v.c, .slice V0.power.x.a r.power.X.length V0.power.x.c, .slice V0.power.y.a r.power.Y.length V0.power.y.c, .slice V0.power.v.a r.power.V.length V0.power.v.c, .slice V0.never.x.a r.never.X.length V0.never.x.c, .slice V0.never.y.a r.never.Y.length V0.never.y.c, .slice V0.never.v.a r.never.V.length V0.never.v.c, .slice V0.low.x.a r.low.X.length V0.low.x.c, .slice V0.low.y.a r.low.Y.length V0.low.y.c, .slice V0.low.v.a r.low.V.length V0.low.v.c, .slice V0.high.x.a r.high.X.length V0.high.x.c, .slice V0.high.y.a r.high.Y.length V0.high.y.c, .slice V0.high.v.a r.high.V.length V0.high.v.c, .slice V0.glide.x.a r.glide.X.length V0.glide.x.c, .slice V0.glide.y.a r.glide.Y.length V0.glide.y.c, .slice V0.glide.v.a r.glide.V.length V0.glide.v.c, .int .i64 r.climb, .int .i64 r.burn]) (i := 0) Try.sizeOf27 hS rfl rfl rfl rfl rfl rfl rfl rfl rfl fun W a hS => wl_nil ?_
          refine wpIn_seq ?_
          refine wpIn_region_lit ?_
          refine st_v hS rfl rfl (run_load_all (i := 2) Try.isAgg36 Try.sizeOf36 hS rfl rfl rfl) fun a hS => st_v hS rfl rfl (run_fieldAddr fa46_0 hS rfl) fun a hS => st_v hS rfl rfl (run_load_agg (i := 1) (vs := [_, _, _, _, _, _, _, _, _, _, _, _]) Try.isAgg44 Try.sizeOf44 hS rfl rfl rfl ⟨rfl, rfl, rfl, rfl, rfl, rfl, rfl, rfl, rfl, rfl, rfl, rfl, trivial⟩) fun a hS => st_call (law02_smaller A (by exact haok)) Try.call52 hS rfl rfl rfl fun v W a hR hB hlt hS => ?_
          subst hR
          refine st_alloc_agg Try.zeroValue36 hS rfl rfl fun W a b4 hS => st_store (cs' := [.int .i64 ((((smallOf A n)).weight).lo), .int .i64 ((((smallOf A n)).weight).hi), .int .i64 ((((smallOf A n)).temp).lo), .int .i64 ((((smallOf A n)).temp).hi), .int .i64 ((((smallOf A n)).height).lo), .int .i64 ((((smallOf A n)).height).hi), .int .i64 ((((smallOf A n)).wind).lo), .int .i64 ((((smallOf A n)).wind).hi)]) (i := 0) Try.sizeOf36 hS rfl rfl rfl rfl rfl rfl rfl rfl rfl fun W a hS => wl_nil ?_
          have hS := hS.sub (κ' := [(0, _), (1, _), (2, _), (3, _), (4, _), (5, _), (6, _), (7, _), (8, _)]) (Sub.cons rfl (Sub.cons rfl (Sub.cons rfl (Sub.cons rfl (Sub.cons rfl (Sub.cons rfl (Sub.cons rfl (Sub.cons rfl (Sub.cons rfl Sub.nil)))))))))
          refine wpIn_seq ?_
          have hlt0 := fun B hB => hS.lt (b := B) hB
          refine st_mix (k := 20) (by kernel_rfl) (by kernel_rfl) hS rfl rfl ?_
          refine mx_v (fun a W hS hB => run_fieldAddr fa46_2 hS rfl) <| mx_v (fun a W hS hB => run_load_agg (i := 2) (vs := [_, _]) Try.isAgg34 Try.sizeOf34 hS rfl rfl rfl ⟨rfl, rfl, trivial⟩) <| mx_v (fun a W hS hB => run_fieldAddr fa46_0 hS rfl) <| mx_v (fun a W hS hB => run_idxArr (fun W => ia44_8 _ _ W) hS rfl rfl) <| mx_v (fun a W hS hB => run_load_one (i := 2) Try.isAgg3 hS rfl rfl rfl) <| mx_v (fun a W hS hB => run_fieldAddr fa46_0 hS rfl) <| mx_v (fun a W hS hB => run_idxArr (fun W => ia44_9 _ _ W) hS rfl rfl) <| mx_v (fun a W hS hB => run_load_one (i := 2) Try.isAgg3 hS rfl rfl rfl) <| mx_call Try.call26 rfl (fun a W hS hB => law02_pick p (by exact hpok)) <| mx_v (fun a W hS hB => run_fieldAddr fa46_1 hS rfl) <| mx_v (fun a W hS hB => run_load_agg (i := 2) (vs := [_, _]) Try.isAgg34 Try.sizeOf34 hS rfl rfl rfl ⟨rfl, rfl, trivial⟩) <| mx_v (fun a W hS hB => run_fieldAddr fa46_0 hS rfl) <| mx_v (fun a W hS hB => run_idxArr (fun W => ia44_10 _ _ W) hS rfl rfl) <| mx_v (fun a W hS hB => run_load_one (i := 2) Try.isAgg3 hS rfl rfl rfl) <| mx_v (fun a W hS hB => run_fieldAddr fa46_0 hS rfl) <| mx_v (fun a W hS hB => run_idxArr (fun W => ia44_11 _ _ W) hS rfl rfl) <| mx_v (fun a W hS hB => run_load_one (i := 2) Try.isAgg3 hS rfl rfl rfl) <| mx_call Try.call26 rfl (fun a W hS hB => law02_pick s (by exact hsok)) <| mx_alloc_agg Try.zeroValue34 <| mx_alloc_agg Try.zeroValue34 <| ?_
          refine mx_end fun a W bs us hS hB hL => ?_
          dsimp only [kall, ball, List.cons_append, List.nil_append] at hS
          generalize bs 1 = b5 at hS
          generalize bs 0 = b6 at hS
          refine st_store (i := 1) Try.sizeOf34 hS rfl rfl rfl rfl rfl rfl rfl rfl rfl fun W a hS => st_store (i := 0) Try.sizeOf34 hS rfl rfl rfl rfl rfl rfl rfl rfl rfl fun W a hS => wl_nil ?_
          refine wpIn_seq ?_
          refine wpIn_region_lit ?_
          refine st_v hS rfl rfl (run_load_all (i := 3) Try.isAgg27 Try.sizeOf27 hS rfl rfl rfl) fun a hS => st_v hS rfl rfl (run_load_all (i := 5) Try.isAgg36 Try.sizeOf36 hS rfl rfl rfl) fun a hS => st_v hS rfl rfl (run_fieldAddr fa46_2 hS rfl) fun a hS => st_v hS rfl rfl (run_load_agg (i := 4) (vs := [_, _]) Try.isAgg34 Try.sizeOf34 hS rfl rfl rfl ⟨rfl, rfl, trivial⟩) fun a hS => st_call (rotor_Needs V0 r A p ((fun _ h => h) _ hS.now.2)) Try.call30 hS rfl rfl rfl fun v W a hR hB hlt hS => ?_
          subst hR
          refine st_v hS rfl rfl (run_move hS rfl) fun a hS => st_v hS rfl rfl (run_extract hS rfl rfl) fun a hS => st_v hS rfl rfl (run_extract hS rfl rfl) fun a hS => st_alloc_agg Try.zeroValue34 hS rfl rfl fun W a b7 hS => st_store (i := 0) Try.sizeOf34 hS rfl rfl rfl rfl rfl rfl rfl rfl rfl fun W a hS => st_v hS rfl rfl (run_assign hS rfl) fun a hS => wl_nil ?_
          have hS := hS.sub (κ' := [(0, _), (1, _), (2, _), (3, _), (4, _), (5, _), (6, _), (7, _), (8, _), (9, _), (10, _), (11, _), (12, _)]) (Sub.cons rfl (Sub.cons rfl (Sub.cons rfl (Sub.cons rfl (Sub.cons rfl (Sub.cons rfl (Sub.cons rfl (Sub.cons rfl (Sub.cons rfl (Sub.cons rfl (Sub.cons rfl (Sub.cons rfl (Sub.cons rfl Sub.nil)))))))))))))
          refine wpIn_seq ?_
          refine wpIn_region_lit ?_
          refine st_v hS rfl rfl (run_load_all (i := 4) Try.isAgg27 Try.sizeOf27 hS rfl rfl rfl) fun a hS => st_v hS rfl rfl (run_load_all (i := 3) Try.isAgg36 Try.sizeOf36 hS rfl rfl rfl) fun a hS => st_v hS rfl rfl (run_load_all (i := 2) Try.isAgg34 Try.sizeOf34 hS rfl rfl rfl) fun a hS => st_call (rotor_Needs V0 r (smallOf A n) (pickOf p (n 8) (n 9)) ((fun _ h => h) _ hS.now.2)) Try.call30 hS rfl rfl rfl fun v W a hR hB hlt hS => ?_
          subst hR
          refine st_v hS rfl rfl (run_move hS rfl) fun a hS => st_v hS rfl rfl (run_extract hS rfl rfl) fun a hS => st_v hS rfl rfl (run_extract hS rfl rfl) fun a hS => st_alloc_agg Try.zeroValue34 hS rfl rfl fun W a b8 hS => st_store (i := 0) Try.sizeOf34 hS rfl rfl rfl rfl rfl rfl rfl rfl rfl fun W a hS => st_v hS rfl rfl (run_assign hS rfl) fun a hS => wl_nil ?_
          refine wpIn_seq ?_
          refine wpIn_seq ?_
          have hS := hS.sub (κ' := [(0, _), (1, _), (2, _), (3, _), (4, _), (5, _), (6, _), (7, _), (8, _), (9, _), (10, _), (11, _), (12, _), (13, _), (14, _)]) (Sub.cons rfl (Sub.cons rfl (Sub.cons rfl (Sub.cons rfl (Sub.cons rfl (Sub.cons rfl (Sub.cons rfl (Sub.cons rfl (Sub.cons rfl (Sub.cons rfl (Sub.cons rfl (Sub.cons rfl (Sub.cons rfl (Sub.cons rfl (Sub.cons rfl Sub.nil)))))))))))))))
          refine st_cut 102 (.bool false) hS ?_ (fun W a hS => ?_)
          · skip
            refine wpIn_region_lit ?_
            refine st_v hS rfl rfl (run_move hS rfl) fun a hS => st_v hS rfl rfl (run_bin hS rfl rfl rfl) fun a hS => st_v hS rfl rfl (run_move hS rfl) fun a hS => ?_
            refine st_split (d := 93) hS rfl (fun hc5 hS => ?_) (fun hc5 hS => ?_)
            · skip
              try simp only [decide_eq_true_eq, decide_eq_false_iff_not, Bool.not_eq_true', Bool.not_eq_false', bne_iff_ne, beq_iff_eq, bne_eq_false_iff_eq, beq_eq_false_iff_ne, ne_eq, Int.not_le, Int.not_lt, ge_iff_le, gt_iff_lt] at hc5
              
              refine st_v hS (hS.wanted rfl rfl rfl) rfl (run_move hS rfl) fun a hS => st_v hS (hS.wanted rfl rfl rfl) rfl (run_bin hS rfl rfl rfl) fun a hS => st_v hS (hS.wanted rfl rfl rfl) rfl (run_move hS rfl) fun a hS => ?_
              refine st_split (d := 96) hS rfl (fun hc6 hS => ?_) (fun hc6 hS => ?_)
              · skip
                try simp only [decide_eq_true_eq, decide_eq_false_iff_not, Bool.not_eq_true', Bool.not_eq_false', bne_iff_ne, beq_iff_eq, bne_eq_false_iff_eq, beq_eq_false_iff_ne, ne_eq, Int.not_le, Int.not_lt, ge_iff_le, gt_iff_lt] at hc6
                exact absurd (F1 hc5).1 hc6
              · skip
                try simp only [decide_eq_true_eq, decide_eq_false_iff_not, Bool.not_eq_true', Bool.not_eq_false', bne_iff_ne, beq_iff_eq, bne_eq_false_iff_eq, beq_eq_false_iff_ne, ne_eq, Int.not_le, Int.not_lt, ge_iff_le, gt_iff_lt] at hc6
                
                refine st_v hS (hS.wanted rfl rfl rfl) rfl (run_load_all (i := 0) Try.isAgg34 Try.sizeOf34 hS rfl rfl rfl) fun a hS => st_v hS (hS.wanted rfl rfl rfl) rfl (run_load_all (i := 1) Try.isAgg34 Try.sizeOf34 hS rfl rfl rfl) fun a hS => st_call (law02_inside (needsV r (smallOf A n) (pickOf p (n 8) (n 9))) (needsV r A p)) Try.call53 hS (hS.wanted rfl rfl rfl) rfl rfl fun v W a hR hB hlt hS => ?_
                subst hR
                refine st_v hS (hS.wanted rfl rfl rfl) rfl (run_not hS rfl) fun a hS => st_v hS (hS.wanted rfl rfl rfl) rfl (run_pick_f hS rfl rfl) fun a hS => st_v hS rfl rfl (run_pick_t hS rfl rfl) fun a hS => wl_nil ?_
                have hT : (!(decide ((needsV r A p).lo ≤ (needsV r (smallOf A n) (pickOf p (n 8) (n 9))).lo) && decide ((needsV r (smallOf A n) (pickOf p (n 8) (n 9))).hi ≤ (needsV r A p).hi))) = false := by rw [in_dec (F1 hc5).2]; rfl
                exact cut_end (hS.sub (Sub.cons (congrArg (fun b => some (Value.bool b)) hT) (Sub.cons rfl (Sub.cons rfl (Sub.cons rfl (Sub.cons rfl (Sub.cons rfl (Sub.cons rfl (Sub.cons rfl (Sub.cons rfl (Sub.cons rfl (Sub.cons rfl (Sub.cons rfl (Sub.cons rfl (Sub.cons rfl (Sub.cons rfl (Sub.cons rfl Sub.nil)))))))))))))))))
            · skip
              try simp only [decide_eq_true_eq, decide_eq_false_iff_not, Bool.not_eq_true', Bool.not_eq_false', bne_iff_ne, beq_iff_eq, bne_eq_false_iff_eq, beq_eq_false_iff_ne, ne_eq, Int.not_le, Int.not_lt, ge_iff_le, gt_iff_lt] at hc5
              
              refine st_skip hS (hS.unwanted rfl rfl rfl rfl) rfl fun a hS => st_skip hS (hS.unwanted rfl rfl rfl rfl) rfl fun a hS => st_skip hS (hS.unwanted rfl rfl rfl rfl) rfl fun a hS => st_skip hS (hS.unwantedU rfl rfl rfl) rfl fun a hS => st_skip hS (hS.unwantedU rfl rfl rfl) rfl fun a hS => st_skip hS (hS.unwantedU rfl rfl rfl) rfl fun a hS => st_skip hS (hS.unwantedU rfl rfl rfl) rfl fun a hS => st_skip hS (hS.unwanted rfl rfl rfl rfl) rfl fun a hS => st_v hS rfl rfl (run_pick_f hS rfl rfl) fun a hS => wl_nil ?_
              exact cut_end (hS.sub (Sub.cons rfl (Sub.cons rfl (Sub.cons rfl (Sub.cons rfl (Sub.cons rfl (Sub.cons rfl (Sub.cons rfl (Sub.cons rfl (Sub.cons rfl (Sub.cons rfl (Sub.cons rfl (Sub.cons rfl (Sub.cons rfl (Sub.cons rfl (Sub.cons rfl (Sub.cons rfl Sub.nil)))))))))))))))))
          · skip
            refine st_cond_f hS rfl ?_
            refine wpIn_skip ?_
            refine wpIn_seq ?_
            refine wpIn_region_lit ?_
            refine st_v hS rfl rfl (run_load_all (i := 5) Try.isAgg27 Try.sizeOf27 hS rfl rfl rfl) fun a hS => st_v hS rfl rfl (run_load_all (i := 7) Try.isAgg36 Try.sizeOf36 hS rfl rfl rfl) fun a hS => st_call (rotor_Has V0 r A ((fun _ h => h) _ hS.now.2)) Try.call32 hS rfl rfl rfl fun v W a hR hB hlt hS => ?_
            subst hR
            refine st_v hS rfl rfl (run_move hS rfl) fun a hS => st_v hS rfl rfl (run_extract hS rfl rfl) fun a hS => st_v hS rfl rfl (run_extract hS rfl rfl) fun a hS => st_alloc_agg Try.zeroValue34 hS rfl rfl fun W a b9 hS => st_store (i := 0) Try.sizeOf34 hS rfl rfl rfl rfl rfl rfl rfl rfl rfl fun W a hS => st_v hS rfl rfl (run_assign hS rfl) fun a hS => wl_nil ?_
            refine wpIn_seq ?_
            refine wpIn_region_lit ?_
            refine st_v hS rfl rfl (run_load_all (i := 6) Try.isAgg27 Try.sizeOf27 hS rfl rfl rfl) fun a hS => st_v hS rfl rfl (run_load_all (i := 5) Try.isAgg36 Try.sizeOf36 hS rfl rfl rfl) fun a hS => st_call (rotor_Has V0 r (smallOf A n) ((fun _ h => h) _ hS.now.2)) Try.call32 hS rfl rfl rfl fun v W a hR hB hlt hS => ?_
            subst hR
            refine st_v hS rfl rfl (run_move hS rfl) fun a hS => st_v hS rfl rfl (run_extract hS rfl rfl) fun a hS => st_v hS rfl rfl (run_extract hS rfl rfl) fun a hS => st_alloc_agg Try.zeroValue34 hS rfl rfl fun W a b10 hS => st_store (i := 0) Try.sizeOf34 hS rfl rfl rfl rfl rfl rfl rfl rfl rfl fun W a hS => st_v hS rfl rfl (run_assign hS rfl) fun a hS => wl_nil ?_
            refine wpIn_seq ?_
            refine wpIn_seq ?_
            have hS := hS.sub (κ' := [(0, _), (1, _), (2, _), (3, _), (4, _), (5, _), (6, _), (7, _), (8, _), (9, _), (10, _), (11, _), (12, _), (13, _), (14, _), (15, _), (16, _), (17, _), (18, _)]) (Sub.cons rfl (Sub.cons rfl (Sub.cons rfl (Sub.cons rfl (Sub.cons rfl (Sub.cons rfl (Sub.cons rfl (Sub.cons rfl (Sub.cons rfl (Sub.cons rfl (Sub.cons rfl (Sub.cons rfl (Sub.cons rfl (Sub.cons rfl (Sub.cons rfl (Sub.cons rfl (Sub.cons rfl (Sub.cons rfl (Sub.cons rfl Sub.nil)))))))))))))))))))
            refine st_cut 126 (.bool false) hS ?_ (fun W a hS => ?_)
            · skip
              refine wpIn_region_lit ?_
              refine st_v hS rfl rfl (run_move hS rfl) fun a hS => st_v hS rfl rfl (run_bin hS rfl rfl rfl) fun a hS => st_v hS rfl rfl (run_move hS rfl) fun a hS => ?_
              refine st_split (d := 117) hS rfl (fun hc7 hS => ?_) (fun hc7 hS => ?_)
              · skip
                try simp only [decide_eq_true_eq, decide_eq_false_iff_not, Bool.not_eq_true', Bool.not_eq_false', bne_iff_ne, beq_iff_eq, bne_eq_false_iff_eq, beq_eq_false_iff_ne, ne_eq, Int.not_le, Int.not_lt, ge_iff_le, gt_iff_lt] at hc7
                
                refine st_v hS (hS.wanted rfl rfl rfl) rfl (run_move hS rfl) fun a hS => st_v hS (hS.wanted rfl rfl rfl) rfl (run_bin hS rfl rfl rfl) fun a hS => st_v hS (hS.wanted rfl rfl rfl) rfl (run_move hS rfl) fun a hS => ?_
                refine st_split (d := 120) hS rfl (fun hc8 hS => ?_) (fun hc8 hS => ?_)
                · skip
                  try simp only [decide_eq_true_eq, decide_eq_false_iff_not, Bool.not_eq_true', Bool.not_eq_false', bne_iff_ne, beq_iff_eq, bne_eq_false_iff_eq, beq_eq_false_iff_ne, ne_eq, Int.not_le, Int.not_lt, ge_iff_le, gt_iff_lt] at hc8
                  exact absurd (F2 hc7).1 hc8
                · skip
                  try simp only [decide_eq_true_eq, decide_eq_false_iff_not, Bool.not_eq_true', Bool.not_eq_false', bne_iff_ne, beq_iff_eq, bne_eq_false_iff_eq, beq_eq_false_iff_ne, ne_eq, Int.not_le, Int.not_lt, ge_iff_le, gt_iff_lt] at hc8
                  
                  refine st_v hS (hS.wanted rfl rfl rfl) rfl (run_load_all (i := 0) Try.isAgg34 Try.sizeOf34 hS rfl rfl rfl) fun a hS => st_v hS (hS.wanted rfl rfl rfl) rfl (run_load_all (i := 1) Try.isAgg34 Try.sizeOf34 hS rfl rfl rfl) fun a hS => st_call (law02_inside (hasV r (smallOf A n)) (hasV r A)) Try.call53 hS (hS.wanted rfl rfl rfl) rfl rfl fun v W a hR hB hlt hS => ?_
                  subst hR
                  refine st_v hS (hS.wanted rfl rfl rfl) rfl (run_not hS rfl) fun a hS => st_v hS (hS.wanted rfl rfl rfl) rfl (run_pick_f hS rfl rfl) fun a hS => st_v hS rfl rfl (run_pick_t hS rfl rfl) fun a hS => wl_nil ?_
                  have hT : (!(decide ((hasV r A).lo ≤ (hasV r (smallOf A n)).lo) && decide ((hasV r (smallOf A n)).hi ≤ (hasV r A).hi))) = false := by rw [in_dec (F2 hc7).2]; rfl
                  exact cut_end (hS.sub (Sub.cons (congrArg (fun b => some (Value.bool b)) hT) (Sub.cons rfl (Sub.cons rfl (Sub.cons rfl (Sub.cons rfl (Sub.cons rfl (Sub.cons rfl (Sub.cons rfl (Sub.cons rfl (Sub.cons rfl (Sub.cons rfl (Sub.cons rfl (Sub.cons rfl (Sub.cons rfl (Sub.cons rfl (Sub.cons rfl (Sub.cons rfl (Sub.cons rfl (Sub.cons rfl (Sub.cons rfl Sub.nil)))))))))))))))))))))
              · skip
                try simp only [decide_eq_true_eq, decide_eq_false_iff_not, Bool.not_eq_true', Bool.not_eq_false', bne_iff_ne, beq_iff_eq, bne_eq_false_iff_eq, beq_eq_false_iff_ne, ne_eq, Int.not_le, Int.not_lt, ge_iff_le, gt_iff_lt] at hc7
                
                refine st_skip hS (hS.unwanted rfl rfl rfl rfl) rfl fun a hS => st_skip hS (hS.unwanted rfl rfl rfl rfl) rfl fun a hS => st_skip hS (hS.unwanted rfl rfl rfl rfl) rfl fun a hS => st_skip hS (hS.unwantedU rfl rfl rfl) rfl fun a hS => st_skip hS (hS.unwantedU rfl rfl rfl) rfl fun a hS => st_skip hS (hS.unwantedU rfl rfl rfl) rfl fun a hS => st_skip hS (hS.unwantedU rfl rfl rfl) rfl fun a hS => st_skip hS (hS.unwanted rfl rfl rfl rfl) rfl fun a hS => st_v hS rfl rfl (run_pick_f hS rfl rfl) fun a hS => wl_nil ?_
                exact cut_end (hS.sub (Sub.cons rfl (Sub.cons rfl (Sub.cons rfl (Sub.cons rfl (Sub.cons rfl (Sub.cons rfl (Sub.cons rfl (Sub.cons rfl (Sub.cons rfl (Sub.cons rfl (Sub.cons rfl (Sub.cons rfl (Sub.cons rfl (Sub.cons rfl (Sub.cons rfl (Sub.cons rfl (Sub.cons rfl (Sub.cons rfl (Sub.cons rfl (Sub.cons rfl Sub.nil)))))))))))))))))))))
            · skip
              refine st_cond_f hS rfl ?_
              refine wpIn_skip ?_
              refine wpIn_seq ?_
              refine wpIn_region_lit ?_
              refine st_v hS rfl rfl (run_load_all (i := 7) Try.isAgg27 Try.sizeOf27 hS rfl rfl rfl) fun a hS => st_v hS rfl rfl (run_load_all (i := 9) Try.isAgg36 Try.sizeOf36 hS rfl rfl rfl) fun a hS => st_v hS rfl rfl (run_fieldAddr fa46_2 hS rfl) fun a hS => st_v hS rfl rfl (run_load_agg (i := 8) (vs := [_, _]) Try.isAgg34 Try.sizeOf34 hS rfl rfl rfl ⟨rfl, rfl, trivial⟩) fun a hS => st_call (rotor_Margin V0 r A p ((fun _ h => h) _ hS.now.2)) Try.call22 hS rfl rfl rfl fun v W a hR hB hlt hS => ?_
              subst hR
              refine st_v hS rfl rfl (run_move hS rfl) fun a hS => st_v hS rfl rfl (run_extract hS rfl rfl) fun a hS => st_v hS rfl rfl (run_extract hS rfl rfl) fun a hS => st_v hS rfl rfl (run_assign hS rfl) fun a hS => st_v hS rfl rfl (run_assign hS rfl) fun a hS => wl_nil ?_
              refine wpIn_seq ?_
              refine wpIn_region_lit ?_
              refine st_v hS rfl rfl (run_load_all (i := 7) Try.isAgg27 Try.sizeOf27 hS rfl rfl rfl) fun a hS => st_v hS rfl rfl (run_load_all (i := 6) Try.isAgg36 Try.sizeOf36 hS rfl rfl rfl) fun a hS => st_v hS rfl rfl (run_load_all (i := 5) Try.isAgg34 Try.sizeOf34 hS rfl rfl rfl) fun a hS => st_call (rotor_Margin V0 r (smallOf A n) (pickOf p (n 8) (n 9)) ((fun _ h => h) _ hS.now.2)) Try.call22 hS rfl rfl rfl fun v W a hR hB hlt hS => ?_
              subst hR
              refine st_v hS rfl rfl (run_move hS rfl) fun a hS => st_v hS rfl rfl (run_extract hS rfl rfl) fun a hS => st_v hS rfl rfl (run_extract hS rfl rfl) fun a hS => st_v hS rfl rfl (run_assign hS rfl) fun a hS => st_v hS rfl rfl (run_assign hS rfl) fun a hS => wl_nil ?_
              refine wpIn_seq ?_
              refine wpIn_seq ?_
              have hS := hS.sub (κ' := [(0, _), (1, _), (2, _), (3, _), (4, _), (5, _), (6, _), (7, _), (8, _), (9, _), (10, _), (11, _), (12, _), (13, _), (14, _), (15, _), (16, _), (17, _), (18, _), (19, _), (20, _), (21, _), (22, _)]) (Sub.cons rfl (Sub.cons rfl (Sub.cons rfl (Sub.cons rfl (Sub.cons rfl (Sub.cons rfl (Sub.cons rfl (Sub.cons rfl (Sub.cons rfl (Sub.cons rfl (Sub.cons rfl (Sub.cons rfl (Sub.cons rfl (Sub.cons rfl (Sub.cons rfl (Sub.cons rfl (Sub.cons rfl (Sub.cons rfl (Sub.cons rfl (Sub.cons rfl (Sub.cons rfl (Sub.cons rfl (Sub.cons rfl Sub.nil)))))))))))))))))))))))
              refine st_cut 152 (.bool false) hS ?_ (fun W a hS => ?_)
              · skip
                refine wpIn_region_lit ?_
                refine st_v hS rfl rfl (run_move hS rfl) fun a hS => st_v hS rfl rfl (run_bin hS rfl rfl rfl) fun a hS => st_v hS rfl rfl (run_move hS rfl) fun a hS => ?_
                refine st_split (d := 144) hS rfl (fun hc9 hS => ?_) (fun hc9 hS => ?_)
                · skip
                  try simp only [decide_eq_true_eq, decide_eq_false_iff_not, Bool.not_eq_true', Bool.not_eq_false', bne_iff_ne, beq_iff_eq, bne_eq_false_iff_eq, beq_eq_false_iff_ne, ne_eq, Int.not_le, Int.not_lt, ge_iff_le, gt_iff_lt] at hc9
                  
                  refine st_v hS (hS.wanted rfl rfl rfl) rfl (run_move hS rfl) fun a hS => st_v hS (hS.wanted rfl rfl rfl) rfl (run_bin hS rfl rfl rfl) fun a hS => st_v hS (hS.wanted rfl rfl rfl) rfl (run_move hS rfl) fun a hS => ?_
                  refine st_split (d := 147) hS rfl (fun hc10 hS => ?_) (fun hc10 hS => ?_)
                  · skip
                    try simp only [decide_eq_true_eq, decide_eq_false_iff_not, Bool.not_eq_true', Bool.not_eq_false', bne_iff_ne, beq_iff_eq, bne_eq_false_iff_eq, beq_eq_false_iff_ne, ne_eq, Int.not_le, Int.not_lt, ge_iff_le, gt_iff_lt] at hc10
                    exact absurd (F3 hc9).1 hc10
                  · skip
                    try simp only [decide_eq_true_eq, decide_eq_false_iff_not, Bool.not_eq_true', Bool.not_eq_false', bne_iff_ne, beq_iff_eq, bne_eq_false_iff_eq, beq_eq_false_iff_ne, ne_eq, Int.not_le, Int.not_lt, ge_iff_le, gt_iff_lt] at hc10
                    
                    refine st_v hS (hS.wanted rfl rfl rfl) rfl (run_move hS rfl) fun a hS => st_v hS (hS.wanted rfl rfl rfl) rfl (run_move hS rfl) fun a hS => st_v hS (hS.wanted rfl rfl rfl) rfl (run_bin hS rfl rfl rfl) fun a hS => st_v hS (hS.wanted rfl rfl rfl) rfl (run_pick_f hS rfl rfl) fun a hS => st_v hS rfl rfl (run_pick_t hS rfl rfl) fun a hS => wl_nil ?_
                    have hT : (decide ((marginV r (smallOf A n) (pickOf p (n 8) (n 9))) < (marginV r A p))) = false := by simp only [decide_eq_false_iff_not]; have := (F3 hc9).2; omega
                    exact cut_end (hS.sub (Sub.cons (congrArg (fun b => some (Value.bool b)) hT) (Sub.cons rfl (Sub.cons rfl (Sub.cons rfl (Sub.cons rfl (Sub.cons rfl (Sub.cons rfl (Sub.cons rfl (Sub.cons rfl (Sub.cons rfl (Sub.cons rfl (Sub.cons rfl (Sub.cons rfl (Sub.cons rfl (Sub.cons rfl (Sub.cons rfl (Sub.cons rfl (Sub.cons rfl (Sub.cons rfl (Sub.cons rfl (Sub.cons rfl (Sub.cons rfl (Sub.cons rfl (Sub.cons rfl Sub.nil)))))))))))))))))))))))))
                · skip
                  try simp only [decide_eq_true_eq, decide_eq_false_iff_not, Bool.not_eq_true', Bool.not_eq_false', bne_iff_ne, beq_iff_eq, bne_eq_false_iff_eq, beq_eq_false_iff_ne, ne_eq, Int.not_le, Int.not_lt, ge_iff_le, gt_iff_lt] at hc9
                  
                  refine st_skip hS (hS.unwanted rfl rfl rfl rfl) rfl fun a hS => st_skip hS (hS.unwanted rfl rfl rfl rfl) rfl fun a hS => st_skip hS (hS.unwanted rfl rfl rfl rfl) rfl fun a hS => st_skip hS (hS.unwantedU rfl rfl rfl) rfl fun a hS => st_skip hS (hS.unwantedU rfl rfl rfl) rfl fun a hS => st_skip hS (hS.unwantedU rfl rfl rfl) rfl fun a hS => st_skip hS (hS.unwanted rfl rfl rfl rfl) rfl fun a hS => st_v hS rfl rfl (run_pick_f hS rfl rfl) fun a hS => wl_nil ?_
                  exact cut_end (hS.sub (Sub.cons rfl (Sub.cons rfl (Sub.cons rfl (Sub.cons rfl (Sub.cons rfl (Sub.cons rfl (Sub.cons rfl (Sub.cons rfl (Sub.cons rfl (Sub.cons rfl (Sub.cons rfl (Sub.cons rfl (Sub.cons rfl (Sub.cons rfl (Sub.cons rfl (Sub.cons rfl (Sub.cons rfl (Sub.cons rfl (Sub.cons rfl (Sub.cons rfl (Sub.cons rfl (Sub.cons rfl (Sub.cons rfl (Sub.cons rfl Sub.nil)))))))))))))))))))))))))
              · skip
                refine st_cond_f hS rfl ?_
                refine wpIn_skip ?_
                refine wpIn_seq ?_
                refine wpIn_region_lit ?_
                refine st_v hS rfl rfl (run_load_all (i := 7) Try.isAgg27 Try.sizeOf27 hS rfl rfl rfl) fun a hS => st_v hS rfl rfl (run_load_all (i := 9) Try.isAgg36 Try.sizeOf36 hS rfl rfl rfl) fun a hS => st_v hS rfl rfl (run_fieldAddr fa46_1 hS rfl) fun a hS => st_v hS rfl rfl (run_load_agg (i := 8) (vs := [_, _]) Try.isAgg34 Try.sizeOf34 hS rfl rfl rfl ⟨rfl, rfl, trivial⟩) fun a hS => st_call (rotor_Flow V0 r A s ((fun _ h => h) _ hS.now.2)) Try.call41 hS rfl rfl rfl fun v W a hR hB hlt hS => ?_
                subst hR
                refine st_v hS rfl rfl (run_move hS rfl) fun a hS => st_v hS rfl rfl (run_extract hS rfl rfl) fun a hS => st_v hS rfl rfl (run_extract hS rfl rfl) fun a hS => st_alloc_agg Try.zeroValue34 hS rfl rfl fun W a b11 hS => st_store (i := 0) Try.sizeOf34 hS rfl rfl rfl rfl rfl rfl rfl rfl rfl fun W a hS => st_v hS rfl rfl (run_assign hS rfl) fun a hS => wl_nil ?_
                refine wpIn_seq ?_
                refine wpIn_region_lit ?_
                refine st_v hS rfl rfl (run_load_all (i := 8) Try.isAgg27 Try.sizeOf27 hS rfl rfl rfl) fun a hS => st_v hS rfl rfl (run_load_all (i := 7) Try.isAgg36 Try.sizeOf36 hS rfl rfl rfl) fun a hS => st_v hS rfl rfl (run_load_all (i := 5) Try.isAgg34 Try.sizeOf34 hS rfl rfl rfl) fun a hS => st_call (rotor_Flow V0 r (smallOf A n) (pickOf s (n 10) (n 11)) ((fun _ h => h) _ hS.now.2)) Try.call41 hS rfl rfl rfl fun v W a hR hB hlt hS => ?_
                subst hR
                refine st_v hS rfl rfl (run_move hS rfl) fun a hS => st_v hS rfl rfl (run_extract hS rfl rfl) fun a hS => st_v hS rfl rfl (run_extract hS rfl rfl) fun a hS => st_alloc_agg Try.zeroValue34 hS rfl rfl fun W a b12 hS => st_store (i := 0) Try.sizeOf34 hS rfl rfl rfl rfl rfl rfl rfl rfl rfl fun W a hS => st_v hS rfl rfl (run_assign hS rfl) fun a hS => wl_nil ?_
                refine wpIn_seq ?_
                refine wpIn_seq ?_
                have hS := hS.sub (κ' := [(0, _), (1, _), (2, _), (3, _), (4, _), (5, _), (6, _), (7, _), (8, _), (9, _), (10, _), (11, _), (12, _), (13, _), (14, _), (15, _), (16, _), (17, _), (18, _), (19, _), (20, _), (21, _), (22, _), (23, _), (24, _), (25, _), (26, _)]) (Sub.cons rfl (Sub.cons rfl (Sub.cons rfl (Sub.cons rfl (Sub.cons rfl (Sub.cons rfl (Sub.cons rfl (Sub.cons rfl (Sub.cons rfl (Sub.cons rfl (Sub.cons rfl (Sub.cons rfl (Sub.cons rfl (Sub.cons rfl (Sub.cons rfl (Sub.cons rfl (Sub.cons rfl (Sub.cons rfl (Sub.cons rfl (Sub.cons rfl (Sub.cons rfl (Sub.cons rfl (Sub.cons rfl (Sub.cons rfl (Sub.cons rfl (Sub.cons rfl (Sub.cons rfl Sub.nil)))))))))))))))))))))))))))
                refine st_cut 179 (.bool false) hS ?_ (fun W a hS => ?_)
                · skip
                  refine wpIn_region_lit ?_
                  refine st_v hS rfl rfl (run_move hS rfl) fun a hS => st_v hS rfl rfl (run_bin hS rfl rfl rfl) fun a hS => st_v hS rfl rfl (run_move hS rfl) fun a hS => ?_
                  refine st_split (d := 170) hS rfl (fun hc11 hS => ?_) (fun hc11 hS => ?_)
                  · skip
                    try simp only [decide_eq_true_eq, decide_eq_false_iff_not, Bool.not_eq_true', Bool.not_eq_false', bne_iff_ne, beq_iff_eq, bne_eq_false_iff_eq, beq_eq_false_iff_ne, ne_eq, Int.not_le, Int.not_lt, ge_iff_le, gt_iff_lt] at hc11
                    
                    refine st_v hS (hS.wanted rfl rfl rfl) rfl (run_move hS rfl) fun a hS => st_v hS (hS.wanted rfl rfl rfl) rfl (run_bin hS rfl rfl rfl) fun a hS => st_v hS (hS.wanted rfl rfl rfl) rfl (run_move hS rfl) fun a hS => ?_
                    refine st_split (d := 173) hS rfl (fun hc12 hS => ?_) (fun hc12 hS => ?_)
                    · skip
                      try simp only [decide_eq_true_eq, decide_eq_false_iff_not, Bool.not_eq_true', Bool.not_eq_false', bne_iff_ne, beq_iff_eq, bne_eq_false_iff_eq, beq_eq_false_iff_ne, ne_eq, Int.not_le, Int.not_lt, ge_iff_le, gt_iff_lt] at hc12
                      exact absurd (F4 hc11).1 hc12
                    · skip
                      try simp only [decide_eq_true_eq, decide_eq_false_iff_not, Bool.not_eq_true', Bool.not_eq_false', bne_iff_ne, beq_iff_eq, bne_eq_false_iff_eq, beq_eq_false_iff_ne, ne_eq, Int.not_le, Int.not_lt, ge_iff_le, gt_iff_lt] at hc12
                      
                      refine st_v hS (hS.wanted rfl rfl rfl) rfl (run_load_all (i := 0) Try.isAgg34 Try.sizeOf34 hS rfl rfl rfl) fun a hS => st_v hS (hS.wanted rfl rfl rfl) rfl (run_load_all (i := 1) Try.isAgg34 Try.sizeOf34 hS rfl rfl rfl) fun a hS => st_call (law02_inside (flowV r (smallOf A n) (pickOf s (n 10) (n 11))) (flowV r A s)) Try.call53 hS (hS.wanted rfl rfl rfl) rfl rfl fun v W a hR hB hlt hS => ?_
                      subst hR
                      refine st_v hS (hS.wanted rfl rfl rfl) rfl (run_not hS rfl) fun a hS => st_v hS (hS.wanted rfl rfl rfl) rfl (run_pick_f hS rfl rfl) fun a hS => st_v hS rfl rfl (run_pick_t hS rfl rfl) fun a hS => wl_nil ?_
                      have hT : (!(decide ((flowV r A s).lo ≤ (flowV r (smallOf A n) (pickOf s (n 10) (n 11))).lo) && decide ((flowV r (smallOf A n) (pickOf s (n 10) (n 11))).hi ≤ (flowV r A s).hi))) = false := by rw [in_dec (F4 hc11).2]; rfl
                      exact cut_end (hS.sub (Sub.cons (congrArg (fun b => some (Value.bool b)) hT) (Sub.cons rfl (Sub.cons rfl (Sub.cons rfl (Sub.cons rfl (Sub.cons rfl (Sub.cons rfl (Sub.cons rfl (Sub.cons rfl (Sub.cons rfl (Sub.cons rfl (Sub.cons rfl (Sub.cons rfl (Sub.cons rfl (Sub.cons rfl (Sub.cons rfl (Sub.cons rfl (Sub.cons rfl (Sub.cons rfl (Sub.cons rfl (Sub.cons rfl (Sub.cons rfl (Sub.cons rfl (Sub.cons rfl (Sub.cons rfl (Sub.cons rfl (Sub.cons rfl (Sub.cons rfl Sub.nil)))))))))))))))))))))))))))))
                  · skip
                    try simp only [decide_eq_true_eq, decide_eq_false_iff_not, Bool.not_eq_true', Bool.not_eq_false', bne_iff_ne, beq_iff_eq, bne_eq_false_iff_eq, beq_eq_false_iff_ne, ne_eq, Int.not_le, Int.not_lt, ge_iff_le, gt_iff_lt] at hc11
                    
                    refine st_skip hS (hS.unwanted rfl rfl rfl rfl) rfl fun a hS => st_skip hS (hS.unwanted rfl rfl rfl rfl) rfl fun a hS => st_skip hS (hS.unwanted rfl rfl rfl rfl) rfl fun a hS => st_skip hS (hS.unwantedU rfl rfl rfl) rfl fun a hS => st_skip hS (hS.unwantedU rfl rfl rfl) rfl fun a hS => st_skip hS (hS.unwantedU rfl rfl rfl) rfl fun a hS => st_skip hS (hS.unwantedU rfl rfl rfl) rfl fun a hS => st_skip hS (hS.unwanted rfl rfl rfl rfl) rfl fun a hS => st_v hS rfl rfl (run_pick_f hS rfl rfl) fun a hS => wl_nil ?_
                    exact cut_end (hS.sub (Sub.cons rfl (Sub.cons rfl (Sub.cons rfl (Sub.cons rfl (Sub.cons rfl (Sub.cons rfl (Sub.cons rfl (Sub.cons rfl (Sub.cons rfl (Sub.cons rfl (Sub.cons rfl (Sub.cons rfl (Sub.cons rfl (Sub.cons rfl (Sub.cons rfl (Sub.cons rfl (Sub.cons rfl (Sub.cons rfl (Sub.cons rfl (Sub.cons rfl (Sub.cons rfl (Sub.cons rfl (Sub.cons rfl (Sub.cons rfl (Sub.cons rfl (Sub.cons rfl (Sub.cons rfl (Sub.cons rfl Sub.nil)))))))))))))))))))))))))))))
                · skip
                  refine st_cond_f hS rfl ?_
                  refine wpIn_skip ?_
                  refine wpIn_seq ?_
                  refine wpIn_region_lit ?_
                  refine st_v hS rfl rfl (run_load_all (i := 9) Try.isAgg27 Try.sizeOf27 hS rfl rfl rfl) fun a hS => st_v hS rfl rfl (run_load_all (i := 11) Try.isAgg36 Try.sizeOf36 hS rfl rfl rfl) fun a hS => st_v hS rfl rfl (run_fieldAddr fa46_1 hS rfl) fun a hS => st_v hS rfl rfl (run_load_agg (i := 10) (vs := [_, _]) Try.isAgg34 Try.sizeOf34 hS rfl rfl rfl ⟨rfl, rfl, trivial⟩) fun a hS => st_v hS rfl rfl (run_fieldAddr fa46_2 hS rfl) fun a hS => st_v hS rfl rfl (run_load_agg (i := 10) (vs := [_, _]) Try.isAgg34 Try.sizeOf34 hS rfl rfl rfl ⟨rfl, rfl, trivial⟩) fun a hS => st_call (rotor_Wake V0 r A s p ((fun _ h => h) _ hS.now.2)) Try.call28 hS rfl rfl rfl fun v W a hR hB hlt hS => ?_
                  subst hR
                  refine st_v hS rfl rfl (run_move hS rfl) fun a hS => st_v hS rfl rfl (run_extract hS rfl rfl) fun a hS => st_v hS rfl rfl (run_extract hS rfl rfl) fun a hS => st_v hS rfl rfl (run_assign hS rfl) fun a hS => st_v hS rfl rfl (run_assign hS rfl) fun a hS => wl_nil ?_
                  refine wpIn_seq ?_
                  refine wpIn_region_lit ?_
                  refine st_v hS rfl rfl (run_load_all (i := 9) Try.isAgg27 Try.sizeOf27 hS rfl rfl rfl) fun a hS => st_v hS rfl rfl (run_load_all (i := 8) Try.isAgg36 Try.sizeOf36 hS rfl rfl rfl) fun a hS => st_v hS rfl rfl (run_load_all (i := 6) Try.isAgg34 Try.sizeOf34 hS rfl rfl rfl) fun a hS => st_v hS rfl rfl (run_load_all (i := 7) Try.isAgg34 Try.sizeOf34 hS rfl rfl rfl) fun a hS => st_call (rotor_Wake V0 r (smallOf A n) (pickOf s (n 10) (n 11)) (pickOf p (n 8) (n 9)) ((fun _ h => h) _ hS.now.2)) Try.call28 hS rfl rfl rfl fun v W a hR hB hlt hS => ?_
                  subst hR
                  refine st_v hS rfl rfl (run_move hS rfl) fun a hS => st_v hS rfl rfl (run_extract hS rfl rfl) fun a hS => st_v hS rfl rfl (run_extract hS rfl rfl) fun a hS => st_v hS rfl rfl (run_assign hS rfl) fun a hS => st_v hS rfl rfl (run_assign hS rfl) fun a hS => wl_nil ?_
                  refine wpIn_seq ?_
                  refine wpIn_region_lit ?_
                  refine st_v hS rfl rfl (run_move hS rfl) fun a hS => st_v hS rfl rfl (run_bin hS rfl rfl rfl) fun a hS => st_v hS rfl rfl (run_move hS rfl) fun a hS => ?_
                  refine st_split (d := 200) hS rfl (fun hc13 hS => ?_) (fun hc13 hS => ?_)
                  · skip
                    try simp only [decide_eq_true_eq, decide_eq_false_iff_not, Bool.not_eq_true', Bool.not_eq_false', bne_iff_ne, beq_iff_eq, bne_eq_false_iff_eq, beq_eq_false_iff_ne, ne_eq, Int.not_le, Int.not_lt, ge_iff_le, gt_iff_lt] at hc13
                    
                    refine st_skip hS (hS.unwanted rfl rfl rfl rfl) rfl fun a hS => st_skip hS (hS.unwanted rfl rfl rfl rfl) rfl fun a hS => st_skip hS (hS.unwanted rfl rfl rfl rfl) rfl fun a hS => st_skip hS (hS.unwantedU rfl rfl rfl) rfl fun a hS => st_skip hS (hS.unwantedU rfl rfl rfl) rfl fun a hS => st_skip hS (hS.unwantedU rfl rfl rfl) rfl fun a hS => st_skip hS (hS.unwantedU rfl rfl rfl) rfl fun a hS => st_skip hS (hS.unwantedU rfl rfl rfl) rfl fun a hS => st_skip hS (hS.unwanted rfl rfl rfl rfl) rfl fun a hS => st_v hS rfl rfl (run_pick_t hS rfl rfl) fun a hS => st_v hS rfl rfl (run_move hS rfl) fun a hS => st_call (law02_works) Try.call16 hS (hS.wanted rfl rfl rfl) rfl rfl fun v W a hR hB hlt hS => ?_
                    subst hR
                    refine st_v hS rfl rfl (run_pick_t hS rfl rfl) fun a hS => st_v hS rfl rfl (run_assign hS rfl) fun a hS => wl_nil ?_
                    have hS := hS.sub (κ' := [(0, _), (1, _), (2, _), (3, _), (4, _), (5, _), (6, _), (7, _), (8, _), (9, _), (10, _), (11, _), (12, _), (13, _), (14, _), (15, _), (16, _), (17, _), (18, _), (19, _), (20, _), (21, _), (22, _), (23, _), (24, _), (25, _), (26, _), (27, _), (28, _), (29, _), (30, _)]) (Sub.cons rfl (Sub.cons rfl (Sub.cons rfl (Sub.cons rfl (Sub.cons rfl (Sub.cons rfl (Sub.cons rfl (Sub.cons rfl (Sub.cons rfl (Sub.cons rfl (Sub.cons rfl (Sub.cons rfl (Sub.cons rfl (Sub.cons rfl (Sub.cons rfl (Sub.cons rfl (Sub.cons rfl (Sub.cons rfl (Sub.cons rfl (Sub.cons rfl (Sub.cons rfl (Sub.cons rfl (Sub.cons rfl (Sub.cons rfl (Sub.cons rfl (Sub.cons rfl (Sub.cons rfl (Sub.cons rfl (Sub.cons rfl (Sub.cons rfl (Sub.cons rfl Sub.nil)))))))))))))))))))))))))))))))
                    refine wpIn_ret ?_
                    repeat (first | refine q_ret ?_ | refine q_block_ret ?_)
                    refine hS.done (res1 (fn := Try.f14) (r1 := .tmp 6) rfl (rv_tmp hS rfl)) ?_
                    rfl
                  · skip
                    try simp only [decide_eq_true_eq, decide_eq_false_iff_not, Bool.not_eq_true', Bool.not_eq_false', bne_iff_ne, beq_iff_eq, bne_eq_false_iff_eq, beq_eq_false_iff_ne, ne_eq, Int.not_le, Int.not_lt, ge_iff_le, gt_iff_lt] at hc13
                    
                    refine st_v hS (hS.wanted rfl rfl rfl) rfl (run_move hS rfl) fun a hS => st_v hS (hS.wanted rfl rfl rfl) rfl (run_bin hS rfl rfl rfl) fun a hS => st_v hS (hS.wanted rfl rfl rfl) rfl (run_move hS rfl) fun a hS => ?_
                    refine st_split (d := 203) hS rfl (fun hc14 hS => ?_) (fun hc14 hS => ?_)
                    · skip
                      try simp only [decide_eq_true_eq, decide_eq_false_iff_not, Bool.not_eq_true', Bool.not_eq_false', bne_iff_ne, beq_iff_eq, bne_eq_false_iff_eq, beq_eq_false_iff_ne, ne_eq, Int.not_le, Int.not_lt, ge_iff_le, gt_iff_lt] at hc14
                      
                      refine st_v hS (hS.wanted rfl rfl rfl) rfl (run_move hS rfl) fun a hS => st_v hS (hS.wanted rfl rfl rfl) rfl (run_move hS rfl) fun a hS => ?_
                      refine st_split (d := 205) hS rfl (fun hc15 hS => ?_) (fun hc15 hS => ?_)
                      · skip
                        try simp only [decide_eq_true_eq, decide_eq_false_iff_not, Bool.not_eq_true', Bool.not_eq_false', bne_iff_ne, beq_iff_eq, bne_eq_false_iff_eq, beq_eq_false_iff_ne, ne_eq, Int.not_le, Int.not_lt, ge_iff_le, gt_iff_lt] at hc15
                        
                        refine st_skip hS (hS.unwanted rfl rfl rfl rfl) rfl fun a hS => st_skip hS (hS.unwanted rfl rfl rfl rfl) rfl fun a hS => st_v hS (hS.wanted rfl rfl rfl) rfl (run_pick_t hS rfl rfl) fun a hS => st_v hS (hS.wanted rfl rfl rfl) rfl (run_pick_t hS rfl rfl) fun a hS => st_v hS rfl rfl (run_pick_f hS rfl rfl) fun a hS => st_v hS rfl rfl (run_move hS rfl) fun a hS => st_call (law02_works) Try.call16 hS (hS.wanted rfl rfl rfl) rfl rfl fun v W a hR hB hlt hS => ?_
                        subst hR
                        refine st_v hS rfl rfl (run_pick_t hS rfl rfl) fun a hS => st_v hS rfl rfl (run_assign hS rfl) fun a hS => wl_nil ?_
                        have hS := hS.sub (κ' := [(0, _), (1, _), (2, _), (3, _), (4, _), (5, _), (6, _), (7, _), (8, _), (9, _), (10, _), (11, _), (12, _), (13, _), (14, _), (15, _), (16, _), (17, _), (18, _), (19, _), (20, _), (21, _), (22, _), (23, _), (24, _), (25, _), (26, _), (27, _), (28, _), (29, _), (30, _)]) (Sub.cons rfl (Sub.cons rfl (Sub.cons rfl (Sub.cons rfl (Sub.cons rfl (Sub.cons rfl (Sub.cons rfl (Sub.cons rfl (Sub.cons rfl (Sub.cons rfl (Sub.cons rfl (Sub.cons rfl (Sub.cons rfl (Sub.cons rfl (Sub.cons rfl (Sub.cons rfl (Sub.cons rfl (Sub.cons rfl (Sub.cons rfl (Sub.cons rfl (Sub.cons rfl (Sub.cons rfl (Sub.cons rfl (Sub.cons rfl (Sub.cons rfl (Sub.cons rfl (Sub.cons rfl (Sub.cons rfl (Sub.cons rfl (Sub.cons rfl (Sub.cons rfl Sub.nil)))))))))))))))))))))))))))))))
                        refine wpIn_ret ?_
                        repeat (first | refine q_ret ?_ | refine q_block_ret ?_)
                        refine hS.done (res1 (fn := Try.f14) (r1 := .tmp 6) rfl (rv_tmp hS rfl)) ?_
                        rfl
                      · skip
                        try simp only [decide_eq_true_eq, decide_eq_false_iff_not, Bool.not_eq_true', Bool.not_eq_false', bne_iff_ne, beq_iff_eq, bne_eq_false_iff_eq, beq_eq_false_iff_ne, ne_eq, Int.not_le, Int.not_lt, ge_iff_le, gt_iff_lt] at hc15
                        
                        refine st_v hS (hS.wanted rfl rfl rfl) rfl (run_move hS rfl) fun a hS => st_v hS (hS.wanted rfl rfl rfl) rfl (run_not hS rfl) fun a hS => st_v hS (hS.wanted rfl rfl rfl) rfl (run_pick_f hS rfl rfl) fun a hS => st_v hS (hS.wanted rfl rfl rfl) rfl (run_pick_t hS rfl rfl) fun a hS => st_v hS rfl rfl (run_pick_f hS rfl rfl) fun a hS => st_v hS rfl rfl (run_move hS rfl) fun a hS => ?_
                        refine st_split (d := 211) hS rfl (fun hc16 hS => ?_) (fun hc16 hS => ?_)
                        · skip
                          try simp only [decide_eq_true_eq, decide_eq_false_iff_not, Bool.not_eq_true', Bool.not_eq_false', bne_iff_ne, beq_iff_eq, bne_eq_false_iff_eq, beq_eq_false_iff_ne, ne_eq, Int.not_le, Int.not_lt, ge_iff_le, gt_iff_lt] at hc16
                          
                          refine st_call (law02_works) Try.call16 hS (hS.wanted rfl rfl rfl) rfl rfl fun v W a hR hB hlt hS => ?_
                          subst hR
                          refine st_v hS rfl rfl (run_pick_t hS rfl rfl) fun a hS => st_v hS rfl rfl (run_assign hS rfl) fun a hS => wl_nil ?_
                          have hS := hS.sub (κ' := [(0, _), (1, _), (2, _), (3, _), (4, _), (5, _), (6, _), (7, _), (8, _), (9, _), (10, _), (11, _), (12, _), (13, _), (14, _), (15, _), (16, _), (17, _), (18, _), (19, _), (20, _), (21, _), (22, _), (23, _), (24, _), (25, _), (26, _), (27, _), (28, _), (29, _), (30, _)]) (Sub.cons rfl (Sub.cons rfl (Sub.cons rfl (Sub.cons rfl (Sub.cons rfl (Sub.cons rfl (Sub.cons rfl (Sub.cons rfl (Sub.cons rfl (Sub.cons rfl (Sub.cons rfl (Sub.cons rfl (Sub.cons rfl (Sub.cons rfl (Sub.cons rfl (Sub.cons rfl (Sub.cons rfl (Sub.cons rfl (Sub.cons rfl (Sub.cons rfl (Sub.cons rfl (Sub.cons rfl (Sub.cons rfl (Sub.cons rfl (Sub.cons rfl (Sub.cons rfl (Sub.cons rfl (Sub.cons rfl (Sub.cons rfl (Sub.cons rfl (Sub.cons rfl Sub.nil)))))))))))))))))))))))))))))))
                          refine wpIn_ret ?_
                          repeat (first | refine q_ret ?_ | refine q_block_ret ?_)
                          refine hS.done (res1 (fn := Try.f14) (r1 := .tmp 6) rfl (rv_tmp hS rfl)) ?_
                          rfl
                        · skip
                          try simp only [decide_eq_true_eq, decide_eq_false_iff_not, Bool.not_eq_true', Bool.not_eq_false', bne_iff_ne, beq_iff_eq, bne_eq_false_iff_eq, beq_eq_false_iff_ne, ne_eq, Int.not_le, Int.not_lt, ge_iff_le, gt_iff_lt] at hc16
                          have h16 : (wakeV r (smallOf A n) (pickOf s (n 10) (n 11)) (pickOf p (n 8) (n 9))) = true := by first | exact hc16 | (have h := hc16; simp only [Bool.not_eq_false'] at h; exact h)
                          have h15 : wakeV r A s p = false := hc15
                          have h17 := (F5 hc13).2 h16
                          rw [h15] at h17; cases h17
                    · skip
                      try simp only [decide_eq_true_eq, decide_eq_false_iff_not, Bool.not_eq_true', Bool.not_eq_false', bne_iff_ne, beq_iff_eq, bne_eq_false_iff_eq, beq_eq_false_iff_ne, ne_eq, Int.not_le, Int.not_lt, ge_iff_le, gt_iff_lt] at hc14
                      exact absurd (F5 hc13).1 hc14

end Go.Proofs.Ytdnodlgebpnfoaa
