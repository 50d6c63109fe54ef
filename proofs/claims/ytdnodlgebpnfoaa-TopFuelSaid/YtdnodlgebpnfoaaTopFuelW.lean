/- The statement TopFuel, walked. -/
import Derived.Test.YtdnodlgebpnfoaaRotor3
import Derived.Test.YtdnodlgebpnfoaaEx
import Derived.Test.YtdnodlgebpnfoaaLift
namespace Go.Proofs.Ytdnodlgebpnfoaa
open Go Go.RowKit Go.Shelf Sw
set_option linter.unusedVariables false
set_option linter.unusedSimpArgs false

set_option maxHeartbeats 4000000 in
set_option maxRecDepth 100000 in
theorem top_measures   {w : World}   : Ret Try.prog 38 [] w (fun v _ => v = .bool true) := by
  refine ret_start (n := 25) Try.func38 rfl rfl rfl (fun a hS => ?_)
  refine wpIn_seq ?_
  refine wpIn_region_lit ?_
  refine st_v hS rfl rfl (run_assign hS rfl) fun a hS => wl_nil ?_
  refine wpIn_seq ?_
  refine wpIn_region_lit ?_
  refine st_buildSlice (pv := [(0, .int .i64 _), (1, .int .i64 _), (2, .int .i64 _)]) (fun W => bs22_3_0_1_2 _ _ _ W) hS rfl rfl rfl fun W a b0 hS => st_buildSlice (pv := [(0, .int .i64 _), (1, .int .i64 _)]) (fun W => bs22_2_0_1 _ _ W) hS rfl rfl rfl fun W a b1 hS => st_buildSlice (pv := [(0, .int .i64 _), (1, .int .i64 _)]) (fun W => bs22_2_0_1 _ _ W) hS rfl rfl rfl fun W a b2 hS => st_buildSlice (pv := [(0, .int .i64 _), (1, .int .i64 _)]) (fun W => bs22_2_0_1 _ _ W) hS rfl rfl rfl fun W a b3 hS => st_buildSlice (pv := [(0, .int .i64 _), (1, .int .i64 _)]) (fun W => bs22_2_0_1 _ _ W) hS rfl rfl rfl fun W a b4 hS => st_buildSlice (pv := [(0, .slice _ _ _), (1, .slice _ _ _), (2, .slice _ _ _)]) (fun W => bs23_3_0_1_2 _ _ _ _ _ _ _ _ _ W) hS rfl rfl rfl fun W a b5 hS => st_v hS rfl rfl (run_build (pv := [(0, .slice _ _ _), (1, .slice _ _ _), (2, .slice _ _ _)]) (fun W => bd25_0_1_2 _ _ _ _ _ _ _ _ _ W) hS rfl) fun a hS => st_alloc_agg Try.zeroValue25 hS rfl rfl fun W a b6 hS => st_store (i := 0) Try.sizeOf25 hS rfl rfl rfl rfl rfl rfl rfl rfl rfl fun W a hS => wl_nil ?_
  refine wpIn_seq ?_
  refine wpIn_region_lit ?_
  refine st_v hS rfl rfl (run_load_all (i := 0) Try.isAgg25 Try.sizeOf25 hS rfl rfl rfl) fun a hS => st_v hS rfl rfl (run_build (pv := [(0, .int .i64 _), (1, .int .i64 _)]) (fun W => bd34_0_1 _ _ W) hS rfl) fun a hS => st_v hS rfl rfl (run_build (pv := [(1, .int .i64 _)]) (fun W => bd34_1 _ W) hS rfl) fun a hS => st_call (spans_Bound (⟨⟨some ⟨b0, 0, none⟩, 3⟩, ⟨some ⟨b1, 0, none⟩, 2⟩, ⟨some ⟨b5, 0, none⟩, 3⟩⟩ : TV) exTab ⟨5, 15⟩ ⟨0, 5⟩ ⟨(own_new (enc := fun x => [.int .i64 x]) (nn := 1) (bb := 8) (hb := by decide) (hl := fun _ => rfl) [0, 10, 20] hS (i := 6) rfl rfl (Nat.le_of_ble_eq_true rfl)), (own_new (enc := fun x => [.int .i64 x]) (nn := 1) (bb := 8) (hb := by decide) (hl := fun _ => rfl) [0, 5] hS (i := 5) rfl rfl (Nat.le_of_ble_eq_true rfl)), (sl_rows (ys := [((⟨some ⟨b2, 0, none⟩, 2⟩ : SV), [0, 10]), ((⟨some ⟨b3, 0, none⟩, 2⟩ : SV), [20, 30]), ((⟨some ⟨b4, 0, none⟩, 2⟩ : SV), [10, 50])]) (own_new (enc := eRow) (nn := 1) (bb := 24) (hb := by decide) (hl := fun _ => rfl) [((⟨some ⟨b2, 0, none⟩, 2⟩ : SV), [0, 10]), ((⟨some ⟨b3, 0, none⟩, 2⟩ : SV), [20, 30]), ((⟨some ⟨b4, 0, none⟩, 2⟩ : SV), [10, 50])] hS (i := 1) rfl rfl (Nat.le_of_ble_eq_true rfl)) (by intro y hy; simp only [List.mem_cons, List.not_mem_nil, or_false] at hy; rcases hy with rfl | rfl | rfl <;> first | exact (own_new (enc := fun x => [.int .i64 x]) (nn := 1) (bb := 8) (hb := by decide) (hl := fun _ => rfl) [0, 10] hS (i := 4) rfl rfl (Nat.le_of_ble_eq_true rfl)) | exact (own_new (enc := fun x => [.int .i64 x]) (nn := 1) (bb := 8) (hb := by decide) (hl := fun _ => rfl) [20, 30] hS (i := 3) rfl rfl (Nat.le_of_ble_eq_true rfl)) | exact (own_new (enc := fun x => [.int .i64 x]) (nn := 1) (bb := 8) (hb := by decide) (hl := fun _ => rfl) [10, 50] hS (i := 2) rfl rfl (Nat.le_of_ble_eq_true rfl))))⟩) Try.call35 hS rfl rfl rfl fun v W a hR hB hlt hS => ?_
  rw [if_pos ex_tab.1, ex_tab.1] at hR
  rw [show (bnd exTab ⟨5, 15⟩ ⟨0, 5⟩ : Span) = ⟨10, 40⟩ from ex_tab.2] at hR
  subst hR
  refine st_v hS rfl rfl (run_move hS rfl) fun a hS => st_v hS rfl rfl (run_extract hS rfl rfl) fun a hS => st_v hS rfl rfl (run_extract hS rfl rfl) fun a hS => st_alloc_agg Try.zeroValue34 hS rfl rfl fun W a b7 hS => st_store (i := 0) Try.sizeOf34 hS rfl rfl rfl rfl rfl rfl rfl rfl rfl fun W a hS => st_v hS rfl rfl (run_assign hS rfl) fun a hS => wl_nil ?_
  refine wpIn_seq ?_
  refine wpIn_region_lit ?_
  refine st_v hS rfl rfl (run_move hS rfl) fun a hS => st_v hS rfl rfl (run_bin hS rfl rfl rfl) fun a hS => st_v hS rfl rfl (run_move hS rfl) fun a hS => ?_
  refine st_split (d := 20) hS rfl (fun hc1 hS => ?_) (fun hc1 hS => ?_)
  · skip
    try simp only [decide_eq_true_eq, decide_eq_false_iff_not, Bool.not_eq_true', Bool.not_eq_false', bne_iff_ne, beq_iff_eq, bne_eq_false_iff_eq, beq_eq_false_iff_ne, ne_eq, Int.not_le, Int.not_lt, ge_iff_le, gt_iff_lt] at hc1
    
    refine st_v hS (hS.wanted rfl rfl rfl) rfl (run_load_all (i := 0) Try.isAgg34 Try.sizeOf34 hS rfl rfl rfl) fun a hS => st_v hS (hS.wanted rfl rfl rfl) rfl (run_build (pv := [(0, .int .i64 _), (1, .int .i64 _)]) (fun W => bd34_0_1 _ _ W) hS rfl) fun a hS => st_v hS (hS.wanted rfl rfl rfl) rfl (run_test hS rfl rfl (fun W => eqS34 _ _ _ _ _ _ W)) fun a hS => st_v hS rfl rfl (run_pick_t hS rfl rfl) fun a hS => st_v hS rfl rfl (run_assign hS rfl) fun a hS => wl_nil ?_
    refine wpIn_ret ?_
    repeat (first | refine q_ret ?_ | refine q_block_ret ?_)
    refine hS.done (res1 (fn := Try.f38) (r1 := .tmp 0) rfl (rv_tmp hS rfl)) ?_
    rfl
  · skip
    try simp only [decide_eq_true_eq, decide_eq_false_iff_not, Bool.not_eq_true', Bool.not_eq_false', bne_iff_ne, beq_iff_eq, bne_eq_false_iff_eq, beq_eq_false_iff_ne, ne_eq, Int.not_le, Int.not_lt, ge_iff_le, gt_iff_lt] at hc1
    simp at hc1


set_option maxHeartbeats 2000000 in
set_option maxRecDepth 100000 in
theorem top_within  {n : Int} (p : Span) {w : World}  (hp : p.ok = true) : Ret Try.prog 96 [.int .i64 n, .agg (spanC p).toArray] w (fun v _ => v = .int .i64 (p.lo + inW p n)) := by
  refine ret_start (n := 22) Try.func96 rfl rfl rfl (fun a hS => ?_)
  have h1 := (Span.ok_iff p).1 hp
  have hw : 1 ≤ wid p ∧ wid p ≤ 2000001 := by unfold wid; omega
  have ha := tmod_in (m := n) (d := wid p) (by omega)
  have hc := inW_in hp n
  have hwd : wid p = p.hi - p.lo + 1 := rfl
  refine wpIn_seq ?_
  refine wpIn_region_lit ?_
  refine st_box_agg hS rfl rfl rfl fun W a b0 hS => st_v hS rfl rfl (run_assign hS rfl) fun a hS => wl_nil ?_
  refine wpIn_seq ?_
  refine wpIn_region_lit ?_
  refine st_v hS rfl rfl (run_fieldAddr fa34_1 hS rfl) fun a hS => st_v hS rfl rfl (run_load_one (i := 0) Try.isAgg3 hS rfl rfl rfl) fun a hS => st_v hS rfl rfl (run_fieldAddr fa34_0 hS rfl) fun a hS => st_v hS rfl rfl (run_load_one (i := 0) Try.isAgg3 hS rfl rfl rfl) fun a hS => st_v hS rfl rfl (run_sub (t := p.hi - p.lo) hS rfl rfl (rfl) (by omega) (by omega)) fun a hS => st_v hS rfl rfl (run_add (t := (wid p)) hS rfl rfl (by rfl) (by omega) (by omega)) fun a hS => st_v hS rfl rfl (run_assign hS rfl) fun a hS => wl_nil ?_
  refine wpIn_seq ?_
  refine st_draw (by kernel_rfl) (by kernel_rfl) hS ?_
  refine qt_v hS rfl rfl (fun W hB hS => run_fieldAddr fa34_0 hS rfl) fun a hS => qt_v hS rfl rfl (fun W hB hS => run_load_one (i := 0) Try.isAgg3 hS rfl rfl rfl) fun a hS => qt_v hS rfl rfl (fun W hB hS => run_move hS rfl) fun a hS => qt_v hS rfl rfl (fun W hB hS => run_move hS rfl) fun a hS => qt_v hS rfl rfl (fun W hB hS => run_rem' (t := Int.tmod n (wid p)) hS rfl rfl (by unfold wid; omega) (rfl)) fun a hS => qt_v hS rfl rfl (fun W hB hS => run_move hS rfl) fun a hS => qt_v hS rfl rfl (fun W hB hS => run_add (t := (Int.tmod n (wid p)) + (wid p)) hS rfl rfl (rfl) (by omega) (by omega)) fun a hS => qt_v hS rfl rfl (fun W hB hS => run_move hS rfl) fun a hS => qt_v hS rfl rfl (fun W hB hS => run_rem' (t := (inW p n)) hS rfl rfl (by unfold wid; omega) (by rfl)) fun a hS => qt_v hS rfl rfl (fun W hB hS => run_add (t := p.lo + (inW p n)) hS rfl rfl (rfl) (by omega) (by omega)) fun a hS => qt_v hS rfl rfl (fun W hB hS => run_assign hS rfl) fun a hS => qt_nil hS fun W hS => ?_
  refine wpIn_ret ?_
  repeat (first | refine q_ret ?_ | refine q_block_ret ?_)
  refine hS.done (res1 (fn := Try.f96) (r1 := .tmp 4) rfl (rv_tmp hS rfl)) ?_
  rfl


set_option maxHeartbeats 2000000 in
set_option maxRecDepth 100000 in
theorem top_part  (p : Span) {m : Int} {n : Int} {w : World}  (hp : p.ok = true) : Ret Try.prog 40 [.agg (spanC p).toArray, .int .i64 m, .int .i64 n] w (fun v _ => v = .agg (spanC (pickOf p m n)).toArray) := by
  refine ret_start (n := 22) Try.func40 rfl rfl rfl (fun a hS => ?_)
  refine wpIn_seq ?_
  refine wpIn_region_lit ?_
  refine st_box_agg hS rfl rfl rfl fun W a b0 hS => st_alloc_agg Try.zeroValue34 hS rfl rfl fun W a b1 hS => wl_nil ?_
  refine wpIn_seq ?_
  refine st_draw (by kernel_rfl) (by kernel_rfl) hS ?_
  refine qt_v hS rfl rfl (fun W hB hS => run_move hS rfl) fun a hS => qt_v hS rfl rfl (fun W hB hS => run_load_all (i := 1) Try.isAgg34 Try.sizeOf34 hS rfl rfl rfl) fun a hS => qt_call hS rfl rfl Try.call96 rfl (fun W hB hS => top_within p (by assumption)) fun a hS => qt_v hS rfl rfl (fun W hB hS => run_move hS rfl) fun a hS => qt_v hS rfl rfl (fun W hB hS => run_load_all (i := 1) Try.isAgg34 Try.sizeOf34 hS rfl rfl rfl) fun a hS => qt_call hS rfl rfl Try.call96 rfl (fun W hB hS => top_within p (by assumption)) fun a hS => qt_v hS rfl rfl (fun W hB hS => run_assign hS rfl) fun a hS => qt_v hS rfl rfl (fun W hB hS => run_assign hS rfl) fun a hS => qt_nil hS fun W hS => ?_
  refine wpIn_seq ?_
  refine wpIn_region_lit ?_
  refine st_v hS rfl rfl (run_move hS rfl) fun a hS => st_v hS rfl rfl (run_move hS rfl) fun a hS => st_v hS rfl rfl (run_min hS rfl rfl) fun a hS => st_v hS rfl rfl (run_move hS rfl) fun a hS => st_v hS rfl rfl (run_move hS rfl) fun a hS => st_v hS rfl rfl (run_max hS rfl rfl) fun a hS => st_v hS rfl rfl (run_build (pv := [(0, .int .i64 _), (1, .int .i64 _)]) (fun W => bd34_0_1 _ _ W) hS rfl) fun a hS => st_store (i := 0) Try.sizeOf34 hS rfl rfl rfl rfl rfl rfl rfl rfl rfl fun W a hS => wl_nil ?_
  refine wpIn_ret ?_
  repeat (first | refine q_ret ?_ | refine q_block_ret ?_)
  refine hS.done (res1 (fn := Try.f40) (r1 := .cell 6 34) rfl (rv_agg (i := 0) Try.isAgg34 Try.sizeOf34 hS rfl rfl rfl)) ?_
  exact t1s (pick_eq p m n)


set_option maxHeartbeats 2000000 in
set_option maxRecDepth 100000 in
theorem top_one  {n : Int} {w : World}   : Ret Try.prog 42 [.int .i64 n] w (fun v _ => v = .agg (spanC (one n)).toArray) := by
  refine ret_start (n := 6) Try.func42 rfl rfl rfl (fun a hS => ?_)
  refine wpIn_seq ?_
  refine wpIn_region_lit ?_
  refine st_alloc_agg Try.zeroValue34 hS rfl rfl fun W a b0 hS => wl_nil ?_
  refine wpIn_seq ?_
  refine wpIn_region_lit ?_
  refine st_v hS rfl rfl (run_move hS rfl) fun a hS => st_v hS rfl rfl (run_move hS rfl) fun a hS => st_v hS rfl rfl (run_build (pv := [(0, .int .i64 _), (1, .int .i64 _)]) (fun W => bd34_0_1 _ _ W) hS rfl) fun a hS => st_store (i := 0) Try.sizeOf34 hS rfl rfl rfl rfl rfl rfl rfl rfl rfl fun W a hS => wl_nil ?_
  refine wpIn_ret ?_
  repeat (first | refine q_ret ?_ | refine q_block_ret ?_)
  refine hS.done (res1 (fn := Try.f42) (r1 := .cell 2 34) rfl (rv_agg (i := 0) Try.isAgg34 Try.sizeOf34 hS rfl rfl rfl)) ?_
  rfl


set_option maxHeartbeats 2000000 in
set_option maxRecDepth 100000 in
theorem route_Burn {Vr : RV} {r : Rot} {c : Nat → Int} {A : Air} {f : Nat → Int} {ha : Option Addr} {hn hc : Nat} {da : Option Addr} {dn dc : Nat} {Fr : Nat → Prop} {n : Int} {w : World}  (hrr : RotR Fr w Vr r) : Ret Try.prog 39 [.agg (liftC Vr r c A f ha hn hc da dn dc).toArray, .int .i64 n] w (fun v _ => v = .tuple #[.int .i64 ((flowV r A (one n)).hi), .int .i64 (errC r A (onLevel r A (one n)))]) := by
  refine ret_start (n := 23) Try.func39 rfl rfl rfl (fun a hS => ?_)
  have Hr : ∀ W, Below w.heap.size w W → RotR Fr W Vr r := fun W hb => hrr.move (keep_of hb)
  refine wpIn_seq ?_
  refine wpIn_region_lit ?_
  refine st_box_agg hS rfl rfl rfl fun W a b0 hS => st_v hS rfl rfl (run_assign hS rfl) fun a hS => st_v hS rfl rfl (run_assign hS rfl) fun a hS => wl_nil ?_
  refine wpIn_seq ?_
  refine wpIn_region_lit ?_
  refine st_v hS rfl rfl (run_fieldAddr fa73_0 hS rfl) fun a hS => st_v hS rfl rfl (run_fieldAddr fa67_0 hS rfl) fun a hS => st_v hS rfl rfl (run_load_agg (i := 0) (vs := [_, _, _, _, _, _, _, _, _, _, _, _, _, _, _, _, _, _, _, _, _, _, _, _, _, _]) Try.isAgg27 Try.sizeOf27 hS rfl rfl rfl ⟨rfl, rfl, rfl, rfl, rfl, rfl, rfl, rfl, rfl, rfl, rfl, rfl, rfl, rfl, rfl, rfl, rfl, rfl, rfl, rfl, rfl, rfl, rfl, rfl, rfl, rfl, trivial⟩) fun a hS => st_v hS rfl rfl (run_fieldAddr fa73_1 hS rfl) fun a hS => st_v hS rfl rfl (run_load_agg (i := 0) (vs := [_, _, _, _, _, _, _, _]) Try.isAgg36 Try.sizeOf36 hS rfl rfl rfl ⟨rfl, rfl, rfl, rfl, rfl, rfl, rfl, rfl, trivial⟩) fun a hS => st_v hS rfl rfl (run_move hS rfl) fun a hS => st_v hS rfl rfl (run_move hS rfl) fun a hS => st_v hS rfl rfl (run_build (pv := [(0, .int .i64 _), (1, .int .i64 _)]) (fun W => bd34_0_1 _ _ W) hS rfl) fun a hS => st_call (rotor_Flow Vr r A (⟨n, n⟩ : Span) (Hr _ hS.below)) Try.call41 hS rfl rfl rfl fun v W a hR hB hlt hS => ?_
  subst hR
  refine st_v hS rfl rfl (run_move hS rfl) fun a hS => st_v hS rfl rfl (run_extract hS rfl rfl) fun a hS => st_v hS rfl rfl (run_extract hS rfl rfl) fun a hS => st_alloc_agg Try.zeroValue34 hS rfl rfl fun W a b1 hS => st_store (i := 0) Try.sizeOf34 hS rfl rfl rfl rfl rfl rfl rfl rfl rfl fun W a hS => st_v hS rfl rfl (run_assign hS rfl) fun a hS => wl_nil ?_
  refine wpIn_seq ?_
  refine wpIn_region_lit ?_
  refine st_v hS rfl rfl (run_fieldAddr fa34_1 hS rfl) fun a hS => st_v hS rfl rfl (run_load_one (i := 0) Try.isAgg3 hS rfl rfl rfl) fun a hS => st_v hS rfl rfl (run_move hS rfl) fun a hS => st_v hS rfl rfl (run_assign hS rfl) fun a hS => st_v hS rfl rfl (run_assign hS rfl) fun a hS => wl_nil ?_
  refine wpIn_ret ?_
  repeat (first | refine q_ret ?_ | refine q_block_ret ?_)
  refine hS.done (res2 (fn := Try.f39) (r1 := .tmp 4) (r2 := .tmp 5) rfl (rv_tmp hS rfl) (rv_tmp hS rfl)) ?_
  rfl


set_option maxHeartbeats 8000000 in
set_option maxRecDepth 100000 in
theorem law_TopFuel {Vr : RV} {r : Rot} {c : Nat → Int} {A : Air} {f : Nat → Int} {ha : Option Addr} {hn hc : Nat} {da : Option Addr} {dn dc : Nat} {sp tk : Int} {n : Nat → Int} {Fr : Nat → Prop}  {w : World}  (hrr : RotR Fr w Vr r) : Ret Try.prog 9 [.agg (liftC Vr r c A f ha hn hc da dn dc).toArray, .agg (cruiseC sp tk n).toArray] w (fun v _ => v = .bool true) := by
  refine ret_start (n := 134) Try.func9 rfl rfl rfl (fun a hS => ?_)
  have Hr : ∀ W, Below w.heap.size w W → RotR Fr W Vr r := fun W hb => hrr.move (keep_of hb)
  refine wpIn_seq ?_
  refine wpIn_region_lit ?_
  refine st_box_agg hS rfl rfl rfl fun W a b0 hS => st_box_agg hS rfl rfl rfl fun W a b1 hS => st_v hS rfl rfl (run_assign hS rfl) fun a hS => wl_nil ?_
  refine wpIn_seq ?_
  refine wpIn_seq ?_
  refine wpIn_region_lit ?_
  refine st_v hS rfl rfl (run_fieldAddr fa73_0 hS rfl) fun a hS => st_v hS rfl rfl (run_fieldAddr fa67_0 hS rfl) fun a hS => st_v hS rfl rfl (run_load_agg (i := 1) (vs := [_, _, _, _, _, _, _, _, _, _, _, _, _, _, _, _, _, _, _, _, _, _, _, _, _, _]) Try.isAgg27 Try.sizeOf27 hS rfl rfl rfl ⟨rfl, rfl, rfl, rfl, rfl, rfl, rfl, rfl, rfl, rfl, rfl, rfl, rfl, rfl, rfl, rfl, rfl, rfl, rfl, rfl, rfl, rfl, rfl, rfl, rfl, rfl, trivial⟩) fun a hS => st_call (law02_Far Vr r (Hr _ hS.below)) Try.call15 hS rfl rfl rfl fun v W a hR hB hlt hS => ?_
  subst hR
  refine st_v hS rfl rfl (run_move hS rfl) fun a hS => ?_
  refine st_split (d := 14) hS rfl (fun hc1 hS => ?_) (fun hc1 hS => ?_)
  · skip
    try simp only [decide_eq_true_eq, decide_eq_false_iff_not, Bool.not_eq_true', Bool.not_eq_false', bne_iff_ne, beq_iff_eq, bne_eq_false_iff_eq, beq_eq_false_iff_ne, ne_eq, Int.not_le, Int.not_lt, ge_iff_le, gt_iff_lt] at hc1
    refine st_skip hS (hS.unwanted rfl rfl rfl rfl) rfl fun a hS => st_skip hS (hS.unwanted rfl rfl rfl rfl) rfl fun a hS => st_skip hS (hS.unwanted rfl rfl rfl rfl) rfl fun a hS => st_skip hS (hS.unwanted rfl rfl rfl rfl) rfl fun a hS => st_skip hS (hS.unwanted rfl rfl rfl rfl) rfl fun a hS => st_skip hS (hS.unwanted rfl rfl rfl rfl) rfl fun a hS => st_skip hS (hS.unwanted rfl rfl rfl rfl) rfl fun a hS => st_v hS rfl rfl (run_pick_t hS rfl rfl) fun a hS => st_v hS rfl rfl (run_move hS rfl) fun a hS => st_skip hS (hS.unwanted rfl rfl rfl rfl) rfl fun a hS => st_skip hS (hS.unwanted rfl rfl rfl rfl) rfl fun a hS => st_skip hS (hS.unwanted rfl rfl rfl rfl) rfl fun a hS => st_skip hS (hS.unwanted rfl rfl rfl rfl) rfl fun a hS => st_v hS rfl rfl (run_pick_t hS rfl rfl) fun a hS => st_v hS rfl rfl (run_move hS rfl) fun a hS => st_skip hS (hS.unwanted rfl rfl rfl rfl) rfl fun a hS => st_skip hS (hS.unwanted rfl rfl rfl rfl) rfl fun a hS => st_skip hS (hS.unwanted rfl rfl rfl rfl) rfl fun a hS => st_skip hS (hS.unwanted rfl rfl rfl rfl) rfl fun a hS => st_skip hS (hS.unwanted rfl rfl rfl rfl) rfl fun a hS => st_v hS rfl rfl (run_pick_t hS rfl rfl) fun a hS => wl_nil ?_
    have hS := hS.sub (κ' := [(0, _), (1, _), (2, _), (3, _), (4, _), (35, _)]) (Sub.cons rfl (Sub.cons rfl (Sub.cons rfl (Sub.cons rfl (Sub.cons rfl (Sub.cons rfl Sub.nil))))))
    refine st_cond_t hS rfl ?_
    refine wpIn_seq ?_
    refine wpIn_region_lit ?_
    refine st_call (top_measures) Try.call38 hS rfl rfl rfl fun v W a hR hB hlt hS => ?_
    subst hR
    refine st_v hS rfl rfl (run_assign hS rfl) fun a hS => wl_nil ?_
    refine wpIn_ret ?_
    repeat (first | refine q_ret ?_ | refine q_block_ret ?_)
    refine hS.done (res1 (fn := Try.f9) (r1 := .tmp 4) rfl (rv_tmp hS rfl)) ?_
    rfl
  · skip
    try simp only [decide_eq_true_eq, decide_eq_false_iff_not, Bool.not_eq_true', Bool.not_eq_false', bne_iff_ne, beq_iff_eq, bne_eq_false_iff_eq, beq_eq_false_iff_ne, ne_eq, Int.not_le, Int.not_lt, ge_iff_le, gt_iff_lt] at hc1
    
    refine st_v hS (hS.wanted rfl rfl rfl) rfl (run_fieldAddr fa73_0 hS rfl) fun a hS => st_v hS (hS.wanted rfl rfl rfl) rfl (run_fieldAddr fa67_0 hS rfl) fun a hS => st_v hS (hS.wanted rfl rfl rfl) rfl (run_load_agg (i := 1) (vs := [_, _, _, _, _, _, _, _, _, _, _, _, _, _, _, _, _, _, _, _, _, _, _, _, _, _]) Try.isAgg27 Try.sizeOf27 hS rfl rfl rfl ⟨rfl, rfl, rfl, rfl, rfl, rfl, rfl, rfl, rfl, rfl, rfl, rfl, rfl, rfl, rfl, rfl, rfl, rfl, rfl, rfl, rfl, rfl, rfl, rfl, rfl, rfl, trivial⟩) fun a hS => st_v hS (hS.wanted rfl rfl rfl) rfl (run_fieldAddr fa73_1 hS rfl) fun a hS => st_v hS (hS.wanted rfl rfl rfl) rfl (run_load_agg (i := 1) (vs := [_, _, _, _, _, _, _, _]) Try.isAgg36 Try.sizeOf36 hS rfl rfl rfl ⟨rfl, rfl, rfl, rfl, rfl, rfl, rfl, rfl, trivial⟩) fun a hS => st_call (ref02_CheckAir Vr r A (Hr _ hS.below)) Try.call24 hS (hS.wanted rfl rfl rfl) rfl rfl fun v W a hR hB hlt hS => ?_
    subst hR
    refine st_v hS (hS.wanted rfl rfl rfl) rfl (run_bin hS rfl rfl rfl) fun a hS => st_v hS rfl rfl (run_pick_f hS rfl rfl) fun a hS => st_v hS rfl rfl (run_move hS rfl) fun a hS => ?_
    refine st_split (d := 23) hS rfl (fun hc2 hS => ?_) (fun hc2 hS => ?_)
    · skip
      try simp only [decide_eq_true_eq, decide_eq_false_iff_not, Bool.not_eq_true', Bool.not_eq_false', bne_iff_ne, beq_iff_eq, bne_eq_false_iff_eq, beq_eq_false_iff_ne, ne_eq, Int.not_le, Int.not_lt, ge_iff_le, gt_iff_lt] at hc2
      refine st_skip hS (hS.unwanted rfl rfl rfl rfl) rfl fun a hS => st_skip hS (hS.unwanted rfl rfl rfl rfl) rfl fun a hS => st_skip hS (hS.unwanted rfl rfl rfl rfl) rfl fun a hS => st_skip hS (hS.unwanted rfl rfl rfl rfl) rfl fun a hS => st_v hS rfl rfl (run_pick_t hS rfl rfl) fun a hS => st_v hS rfl rfl (run_move hS rfl) fun a hS => st_skip hS (hS.unwanted rfl rfl rfl rfl) rfl fun a hS => st_skip hS (hS.unwanted rfl rfl rfl rfl) rfl fun a hS => st_skip hS (hS.unwanted rfl rfl rfl rfl) rfl fun a hS => st_skip hS (hS.unwanted rfl rfl rfl rfl) rfl fun a hS => st_skip hS (hS.unwanted rfl rfl rfl rfl) rfl fun a hS => st_v hS rfl rfl (run_pick_t hS rfl rfl) fun a hS => wl_nil ?_
      have hS := hS.sub (κ' := [(0, _), (1, _), (2, _), (3, _), (4, _), (35, _)]) (Sub.cons rfl (Sub.cons rfl (Sub.cons rfl (Sub.cons rfl (Sub.cons rfl (Sub.cons rfl Sub.nil))))))
      refine st_cond_t hS rfl ?_
      refine wpIn_seq ?_
      refine wpIn_region_lit ?_
      refine st_call (top_measures) Try.call38 hS rfl rfl rfl fun v W a hR hB hlt hS => ?_
      subst hR
      refine st_v hS rfl rfl (run_assign hS rfl) fun a hS => wl_nil ?_
      refine wpIn_ret ?_
      repeat (first | refine q_ret ?_ | refine q_block_ret ?_)
      refine hS.done (res1 (fn := Try.f9) (r1 := .tmp 4) rfl (rv_tmp hS rfl)) ?_
      rfl
    · skip
      try simp only [decide_eq_true_eq, decide_eq_false_iff_not, Bool.not_eq_true', Bool.not_eq_false', bne_iff_ne, beq_iff_eq, bne_eq_false_iff_eq, beq_eq_false_iff_ne, ne_eq, Int.not_le, Int.not_lt, ge_iff_le, gt_iff_lt] at hc2
      
      refine st_v hS (hS.wanted rfl rfl rfl) rfl (run_fieldAddr fa73_3 hS rfl) fun a hS => st_v hS (hS.wanted rfl rfl rfl) rfl (run_load_one (i := 1) Try.isAgg71 hS rfl rfl rfl) fun a hS => st_v hS (hS.wanted rfl rfl rfl) rfl (run_len_slice Try.underlying71 hS rfl) fun a hS => st_v hS (hS.wanted rfl rfl rfl) rfl (run_bin hS rfl rfl rfl) fun a hS => st_v hS rfl rfl (run_pick_f hS rfl rfl) fun a hS => st_v hS rfl rfl (run_move hS rfl) fun a hS => ?_
      refine st_split (d := 29) hS rfl (fun hc3 hS => ?_) (fun hc3 hS => ?_)
      · skip
        try simp only [decide_eq_true_eq, decide_eq_false_iff_not, Bool.not_eq_true', Bool.not_eq_false', bne_iff_ne, beq_iff_eq, bne_eq_false_iff_eq, beq_eq_false_iff_ne, ne_eq, Int.not_le, Int.not_lt, ge_iff_le, gt_iff_lt] at hc3
        refine st_skip hS (hS.unwanted rfl rfl rfl rfl) rfl fun a hS => st_skip hS (hS.unwanted rfl rfl rfl rfl) rfl fun a hS => st_skip hS (hS.unwanted rfl rfl rfl rfl) rfl fun a hS => st_skip hS (hS.unwanted rfl rfl rfl rfl) rfl fun a hS => st_skip hS (hS.unwanted rfl rfl rfl rfl) rfl fun a hS => st_v hS rfl rfl (run_pick_t hS rfl rfl) fun a hS => wl_nil ?_
        have hS := hS.sub (κ' := [(0, _), (1, _), (2, _), (3, _), (4, _), (35, _)]) (Sub.cons rfl (Sub.cons rfl (Sub.cons rfl (Sub.cons rfl (Sub.cons rfl (Sub.cons rfl Sub.nil))))))
        refine st_cond_t hS rfl ?_
        refine wpIn_seq ?_
        refine wpIn_region_lit ?_
        refine st_call (top_measures) Try.call38 hS rfl rfl rfl fun v W a hR hB hlt hS => ?_
        subst hR
        refine st_v hS rfl rfl (run_assign hS rfl) fun a hS => wl_nil ?_
        refine wpIn_ret ?_
        repeat (first | refine q_ret ?_ | refine q_block_ret ?_)
        refine hS.done (res1 (fn := Try.f9) (r1 := .tmp 4) rfl (rv_tmp hS rfl)) ?_
        rfl
      · skip
        try simp only [decide_eq_true_eq, decide_eq_false_iff_not, Bool.not_eq_true', Bool.not_eq_false', bne_iff_ne, beq_iff_eq, bne_eq_false_iff_eq, beq_eq_false_iff_ne, ne_eq, Int.not_le, Int.not_lt, ge_iff_le, gt_iff_lt] at hc3
        
        refine st_v hS (hS.wanted rfl rfl rfl) rfl (run_fieldAddr fa73_2 hS rfl) fun a hS => st_v hS (hS.wanted rfl rfl rfl) rfl (run_fieldAddr fa70_3 hS rfl) fun a hS => st_v hS (hS.wanted rfl rfl rfl) rfl (run_load_one (i := 1) Try.isAgg68 hS rfl rfl rfl) fun a hS => st_v hS (hS.wanted rfl rfl rfl) rfl (run_len_slice Try.underlying68 hS rfl) fun a hS => st_v hS (hS.wanted rfl rfl rfl) rfl (run_bin hS rfl rfl rfl) fun a hS => st_v hS rfl rfl (run_pick_f hS rfl rfl) fun a hS => wl_nil ?_
        have hS := hS.sub (κ' := [(0, _), (1, _), (2, _), (3, _), (4, _), (35, _)]) (Sub.cons rfl (Sub.cons rfl (Sub.cons rfl (Sub.cons rfl (Sub.cons rfl (Sub.cons rfl Sub.nil))))))
        refine st_cond hS rfl (fun hc4 => ?_) (fun hc4 => ?_)
        · skip
          try simp only [decide_eq_true_eq, decide_eq_false_iff_not, Bool.not_eq_true', Bool.not_eq_false', bne_iff_ne, beq_iff_eq, bne_eq_false_iff_eq, beq_eq_false_iff_ne, ne_eq, Int.not_le, Int.not_lt, ge_iff_le, gt_iff_lt] at hc4
          refine wpIn_seq ?_
          refine wpIn_region_lit ?_
          refine st_call (top_measures) Try.call38 hS rfl rfl rfl fun v W a hR hB hlt hS => ?_
          subst hR
          refine st_v hS rfl rfl (run_assign hS rfl) fun a hS => wl_nil ?_
          refine wpIn_ret ?_
          repeat (first | refine q_ret ?_ | refine q_block_ret ?_)
          refine hS.done (res1 (fn := Try.f9) (r1 := .tmp 4) rfl (rv_tmp hS rfl)) ?_
          rfl
        · skip
          try simp only [decide_eq_true_eq, decide_eq_false_iff_not, Bool.not_eq_true', Bool.not_eq_false', bne_iff_ne, beq_iff_eq, bne_eq_false_iff_eq, beq_eq_false_iff_ne, ne_eq, Int.not_le, Int.not_lt, ge_iff_le, gt_iff_lt] at hc4
          obtain ⟨hrok, haok, _⟩ := errC_ok hc2
          obtain ⟨hA1, hA2, hA3, hA4⟩ := (airOk_iff A).1 haok
          refine wpIn_skip ?_
          refine wpIn_seq ?_
          refine wpIn_region_lit ?_
          refine st_v hS rfl rfl (run_load_all (i := 1) Try.isAgg73 Try.sizeOf73 hS rfl rfl rfl) fun a hS => st_v hS rfl rfl (run_fieldAddr fa76_0 hS rfl) fun a hS => st_v hS rfl rfl (run_load_one (i := 0) Try.isAgg3 hS rfl rfl rfl) fun a hS => st_call (route_Burn (n := sp) (Hr _ hS.below)) Try.call39 hS rfl rfl rfl fun v W a hR hB hlt hS => ?_
          subst hR
          refine st_v hS rfl rfl (run_move hS rfl) fun a hS => st_v hS rfl rfl (run_extract hS rfl rfl) fun a hS => st_v hS rfl rfl (run_extract hS rfl rfl) fun a hS => st_v hS rfl rfl (run_assign hS rfl) fun a hS => st_v hS rfl rfl (run_assign hS rfl) fun a hS => wl_nil ?_
          refine wpIn_seq ?_
          refine wpIn_seq ?_
          refine wpIn_region_lit ?_
          refine st_v hS rfl rfl (run_move hS rfl) fun a hS => st_v hS rfl rfl (run_bin hS rfl rfl rfl) fun a hS => wl_nil ?_
          refine st_cond hS rfl (fun hc5 => ?_) (fun hc5 => ?_)
          · skip
            try simp only [decide_eq_true_eq, decide_eq_false_iff_not, Bool.not_eq_true', Bool.not_eq_false', bne_iff_ne, beq_iff_eq, bne_eq_false_iff_eq, beq_eq_false_iff_ne, ne_eq, Int.not_le, Int.not_lt, ge_iff_le, gt_iff_lt] at hc5
            refine wpIn_seq ?_
            refine wpIn_region_lit ?_
            refine st_call (top_measures) Try.call38 hS rfl rfl rfl fun v W a hR hB hlt hS => ?_
            subst hR
            refine st_v hS rfl rfl (run_assign hS rfl) fun a hS => wl_nil ?_
            refine wpIn_ret ?_
            repeat (first | refine q_ret ?_ | refine q_block_ret ?_)
            refine hS.done (res1 (fn := Try.f9) (r1 := .tmp 4) rfl (rv_tmp hS rfl)) ?_
            rfl
          · skip
            try simp only [decide_eq_true_eq, decide_eq_false_iff_not, Bool.not_eq_true', Bool.not_eq_false', bne_iff_ne, beq_iff_eq, bne_eq_false_iff_eq, beq_eq_false_iff_ne, ne_eq, Int.not_le, Int.not_lt, ge_iff_le, gt_iff_lt] at hc5
            have hF := less_fuel n hc5
            have hb1 := flow_in hc5; have hb2 := flow_in hF.1
            refine wpIn_skip ?_
            refine wpIn_seq ?_
            have hlt0 := fun B hB => hS.lt (b := B) hB
            refine st_mix (k := 42) (by kernel_rfl) (by kernel_rfl) hS rfl rfl ?_
            refine mx_v (fun a W hS hB => run_fieldAddr fa73_1 hS rfl) <| mx_v (fun a W hS hB => run_fieldAddr fa36_0 hS rfl) <| mx_v (fun a W hS hB => run_load_agg (i := 1) (vs := [_, _]) Try.isAgg34 Try.sizeOf34 hS rfl rfl rfl ⟨rfl, rfl, trivial⟩) <| mx_v (fun a W hS hB => run_fieldAddr fa76_2 hS rfl) <| mx_v (fun a W hS hB => run_idxArr (fun W => ia74_0 _ _ W) hS rfl rfl) <| mx_v (fun a W hS hB => run_load_one (i := 0) Try.isAgg3 hS rfl rfl rfl) <| mx_v (fun a W hS hB => run_fieldAddr fa76_2 hS rfl) <| mx_v (fun a W hS hB => run_idxArr (fun W => ia74_1 _ _ W) hS rfl rfl) <| mx_v (fun a W hS hB => run_load_one (i := 0) Try.isAgg3 hS rfl rfl rfl) <| mx_call Try.call40 rfl (fun a W hS hB => top_part A.weight (by exact hA1)) <| mx_v (fun a W hS hB => run_fieldAddr fa73_1 hS rfl) <| mx_v (fun a W hS hB => run_fieldAddr fa36_1 hS rfl) <| mx_v (fun a W hS hB => run_load_agg (i := 1) (vs := [_, _]) Try.isAgg34 Try.sizeOf34 hS rfl rfl rfl ⟨rfl, rfl, trivial⟩) <| mx_v (fun a W hS hB => run_fieldAddr fa76_2 hS rfl) <| mx_v (fun a W hS hB => run_idxArr (fun W => ia74_2 _ _ W) hS rfl rfl) <| mx_v (fun a W hS hB => run_load_one (i := 0) Try.isAgg3 hS rfl rfl rfl) <| mx_v (fun a W hS hB => run_fieldAddr fa76_2 hS rfl) <| mx_v (fun a W hS hB => run_idxArr (fun W => ia74_3 _ _ W) hS rfl rfl) <| mx_v (fun a W hS hB => run_load_one (i := 0) Try.isAgg3 hS rfl rfl rfl) <| mx_call Try.call40 rfl (fun a W hS hB => top_part A.temp (by exact hA2)) <| mx_v (fun a W hS hB => run_fieldAddr fa73_1 hS rfl) <| mx_v (fun a W hS hB => run_fieldAddr fa36_2 hS rfl) <| mx_v (fun a W hS hB => run_load_agg (i := 1) (vs := [_, _]) Try.isAgg34 Try.sizeOf34 hS rfl rfl rfl ⟨rfl, rfl, trivial⟩) <| mx_v (fun a W hS hB => run_fieldAddr fa76_2 hS rfl) <| mx_v (fun a W hS hB => run_idxArr (fun W => ia74_4 _ _ W) hS rfl rfl) <| mx_v (fun a W hS hB => run_load_one (i := 0) Try.isAgg3 hS rfl rfl rfl) <| mx_v (fun a W hS hB => run_fieldAddr fa76_2 hS rfl) <| mx_v (fun a W hS hB => run_idxArr (fun W => ia74_5 _ _ W) hS rfl rfl) <| mx_v (fun a W hS hB => run_load_one (i := 0) Try.isAgg3 hS rfl rfl rfl) <| mx_call Try.call40 rfl (fun a W hS hB => top_part A.height (by exact hA3)) <| mx_v (fun a W hS hB => run_fieldAddr fa73_1 hS rfl) <| mx_v (fun a W hS hB => run_fieldAddr fa36_3 hS rfl) <| mx_v (fun a W hS hB => run_load_agg (i := 1) (vs := [_, _]) Try.isAgg34 Try.sizeOf34 hS rfl rfl rfl ⟨rfl, rfl, trivial⟩) <| mx_v (fun a W hS hB => run_fieldAddr fa76_2 hS rfl) <| mx_v (fun a W hS hB => run_idxArr (fun W => ia74_6 _ _ W) hS rfl rfl) <| mx_v (fun a W hS hB => run_load_one (i := 0) Try.isAgg3 hS rfl rfl rfl) <| mx_v (fun a W hS hB => run_fieldAddr fa76_2 hS rfl) <| mx_v (fun a W hS hB => run_idxArr (fun W => ia74_7 _ _ W) hS rfl rfl) <| mx_v (fun a W hS hB => run_load_one (i := 0) Try.isAgg3 hS rfl rfl rfl) <| mx_call Try.call40 rfl (fun a W hS hB => top_part A.wind (by exact hA4)) <| mx_v (fun a W hS hB => run_build (pv := [(0, .agg #[.int .i64 _, .int .i64 _]), (1, .agg #[.int .i64 _, .int .i64 _]), (2, .agg #[.int .i64 _, .int .i64 _]), (3, .agg #[.int .i64 _, .int .i64 _])]) (fun W => bd36_0_1_2_3 _ _ _ _ _ _ _ _ W) hS rfl) <| mx_alloc_agg Try.zeroValue36 <| ?_
            refine mx_end fun a W bs us hS hB hL => ?_
            dsimp only [kall, ball, List.cons_append, List.nil_append] at hS
            generalize bs 0 = b2 at hS
            refine st_store (cs' := [.int .i64 ((((smallOf A n)).weight).lo), .int .i64 ((((smallOf A n)).weight).hi), .int .i64 ((((smallOf A n)).temp).lo), .int .i64 ((((smallOf A n)).temp).hi), .int .i64 ((((smallOf A n)).height).lo), .int .i64 ((((smallOf A n)).height).hi), .int .i64 ((((smallOf A n)).wind).lo), .int .i64 ((((smallOf A n)).wind).hi)]) (i := 0) Try.sizeOf36 hS rfl rfl rfl rfl rfl rfl rfl rfl rfl fun W a hS => wl_nil ?_
            have hS := hS.sub (κ' := [(0, _), (1, _), (2, _), (3, _), (4, _), (5, _), (6, _), (7, _)]) (Sub.cons rfl (Sub.cons rfl (Sub.cons rfl (Sub.cons rfl (Sub.cons rfl (Sub.cons rfl (Sub.cons rfl (Sub.cons rfl Sub.nil))))))))
            refine wpIn_seq ?_
            have hS := hS.sub (κ' := [(0, _), (1, _), (2, _), (3, _), (4, _), (5, _), (6, _), (7, _)]) (Sub.cons rfl (Sub.cons rfl (Sub.cons rfl (Sub.cons rfl (Sub.cons rfl (Sub.cons rfl (Sub.cons rfl (Sub.cons rfl Sub.nil))))))))
            refine st_cutN (fun b => [(9, .int .i64 (errC r (smallOf A n) (onLevel r (smallOf A n) (one sp)))), (8, .pointer (some ⟨b, 0, none⟩))]) (fun b => [⟨b, spanC (flowV r (smallOf A n) (one sp)), 34⟩]) hS ?_ ?_
            · skip
              refine anyh_start (by kernel_rfl) [true, true, true] hS fun W hS => ?_
              refine anyh_take (i := 0) [true, true, true] hS (fun _ h => h) rfl rfl (by kernel_rfl) (by kernel_rfl) (by kernel_rfl) rfl rfl (fun W' hS => run_fieldAddr fa73_0 hS rfl) fun a hS => ?_
              refine anyh_take (i := 1) [true, true, true] hS (fun _ h => h) rfl rfl (by kernel_rfl) (by kernel_rfl) (by kernel_rfl) rfl rfl (fun W' hS => run_fieldAddr fa67_0 hS rfl) fun a hS => ?_
              refine anyh_take (i := 2) [true, true, true] hS (fun _ h => h) rfl rfl (by kernel_rfl) (by kernel_rfl) (by kernel_rfl) rfl rfl (fun W' hS => run_load_agg (i := 2) (vs := [_, _, _, _, _, _, _, _, _, _, _, _, _, _, _, _, _, _, _, _, _, _, _, _, _, _]) Try.isAgg27 Try.sizeOf27 hS rfl rfl rfl ⟨rfl, rfl, rfl, rfl, rfl, rfl, rfl, rfl, rfl, rfl, rfl, rfl, rfl, rfl, rfl, rfl, rfl, rfl, rfl, rfl, rfl, rfl, rfl, rfl, rfl, rfl, trivial⟩) fun a hS => ?_
              refine anyh_take (i := 3) [true, true, true] hS (fun _ h => h) rfl rfl (by kernel_rfl) (by kernel_rfl) (by kernel_rfl) rfl rfl (fun W' hS => run_load_all (i := 0) Try.isAgg36 Try.sizeOf36 hS rfl rfl rfl) fun a hS => ?_
              refine anyh_take (i := 4) [true, true, true] hS (fun _ h => h) rfl rfl (by kernel_rfl) (by kernel_rfl) (by kernel_rfl) rfl rfl (fun W' hS => run_fieldAddr fa76_0 hS rfl) fun a hS => ?_
              refine anyh_take (i := 5) [true, true, true] hS (fun _ h => h) rfl rfl (by kernel_rfl) (by kernel_rfl) (by kernel_rfl) rfl rfl (fun W' hS => run_load_one (i := 1) Try.isAgg3 hS rfl rfl rfl) fun a hS => ?_
              refine anyh_go (rs := [6, 11]) (by kernel_rfl) (by simp) ⟨⟨_, rfl, ?_⟩, ⟨_, rfl, ?_⟩, trivial⟩
              · skip
                refine st_call (top_one) Try.call42 hS rfl rfl rfl fun v W a hR hB hlt hS => ?_
                subst hR
                refine wl_nil ?_
                refine anyh_next [true, true, true] hS (fun _ h => h) rfl ?_
                refine anyh_go (rs := [7, 11]) (by kernel_rfl) (by simp) ⟨⟨_, rfl, ?_⟩, ⟨_, rfl, ?_⟩, trivial⟩
                · skip
                  refine st_call (rotor_Flow Vr r (smallOf A n) (one sp) (Hr _ hS.below)) Try.call41 hS rfl rfl rfl fun v W a hR hB hlt hS => ?_
                  subst hR
                  refine wl_nil ?_
                  refine anyh_next [true, true, true] hS (fun _ h => h) rfl ?_
                  refine anyh_take (i := 8) [true, true, true] hS (fun _ h => h) rfl rfl (by kernel_rfl) (by kernel_rfl) (by kernel_rfl) rfl rfl (fun W' hS => run_move hS rfl) fun a hS => ?_
                  refine anyh_take (i := 9) [true, true, true] hS (fun _ h => h) rfl rfl (by kernel_rfl) (by kernel_rfl) (by kernel_rfl) rfl rfl (fun W' hS => run_extract hS rfl rfl) fun a hS => ?_
                  refine anyh_take (i := 10) [true, true, true] hS (fun _ h => h) rfl rfl (by kernel_rfl) (by kernel_rfl) (by kernel_rfl) rfl rfl (fun W' hS => run_extract hS rfl rfl) fun a hS => ?_
                  refine anyh_go (rs := [11]) (by kernel_rfl) (by simp) ⟨⟨_, rfl, ?_⟩, trivial⟩
                  refine st_alloc_agg Try.zeroValue34 hS rfl rfl fun W a b3 hS => wl_nil ?_
                  refine anyh_next [false, true, true, true] hS (fun _ h => h) rfl ?_
                  refine anyh_go (rs := [12]) (by kernel_rfl) (by simp) ⟨⟨_, rfl, ?_⟩, trivial⟩
                  refine st_store (i := 0) Try.sizeOf34 hS rfl rfl rfl rfl rfl rfl rfl rfl rfl fun W a hS => wl_nil ?_
                  refine anyh_next [false, true, true, true] hS (fun _ h => h) rfl ?_
                  refine anyh_take (i := 13) [false, true, true, true] hS (fun _ h => h) rfl rfl (by kernel_rfl) (by kernel_rfl) (by kernel_rfl) rfl rfl (fun W' hS => run_assign hS rfl) fun a hS => ?_
                  refine anyh_done (by kernel_rfl) ?_ _
                  refine cut_end ⟨b3, ?_⟩
                  dsimp only [List.cons_append, List.nil_append]
                  exact ((hS.sub (Sub.cons rfl (Sub.cons rfl (Sub.cons rfl (Sub.cons rfl (Sub.cons rfl (Sub.cons rfl (Sub.cons rfl (Sub.cons rfl (Sub.cons rfl (Sub.cons rfl Sub.nil))))))))))).drop (List.Sublist.cons_cons _ (List.Sublist.refl _)))
                · skip
                  refine st_alloc_agg Try.zeroValue34 hS rfl rfl fun W a b4 hS => wl_nil ?_
                  refine anyh_next [false, true, true, true] hS (fun _ h => h) rfl ?_
                  refine anyh_go (rs := [7]) (by kernel_rfl) (by simp) ⟨⟨_, rfl, ?_⟩, trivial⟩
                  refine st_call (rotor_Flow Vr r (smallOf A n) (one sp) (Hr _ hS.below)) Try.call41 hS rfl rfl rfl fun v W a hR hB hlt hS => ?_
                  subst hR
                  refine wl_nil ?_
                  refine anyh_next [false, true, true, true] hS (fun _ h => h) rfl ?_
                  refine anyh_take (i := 8) [false, true, true, true] hS (fun _ h => h) rfl rfl (by kernel_rfl) (by kernel_rfl) (by kernel_rfl) rfl rfl (fun W' hS => run_move hS rfl) fun a hS => ?_
                  refine anyh_take (i := 9) [false, true, true, true] hS (fun _ h => h) rfl rfl (by kernel_rfl) (by kernel_rfl) (by kernel_rfl) rfl rfl (fun W' hS => run_extract hS rfl rfl) fun a hS => ?_
                  refine anyh_take (i := 10) [false, true, true, true] hS (fun _ h => h) rfl rfl (by kernel_rfl) (by kernel_rfl) (by kernel_rfl) rfl rfl (fun W' hS => run_extract hS rfl rfl) fun a hS => ?_
                  refine anyh_go (rs := [12]) (by kernel_rfl) (by simp) ⟨⟨_, rfl, ?_⟩, trivial⟩
                  refine st_store (i := 0) Try.sizeOf34 hS rfl rfl rfl rfl rfl rfl rfl rfl rfl fun W a hS => wl_nil ?_
                  refine anyh_next [false, true, true, true] hS (fun _ h => h) rfl ?_
                  refine anyh_take (i := 13) [false, true, true, true] hS (fun _ h => h) rfl rfl (by kernel_rfl) (by kernel_rfl) (by kernel_rfl) rfl rfl (fun W' hS => run_assign hS rfl) fun a hS => ?_
                  refine anyh_done (by kernel_rfl) ?_ _
                  refine cut_end ⟨b4, ?_⟩
                  dsimp only [List.cons_append, List.nil_append]
                  exact ((hS.sub (Sub.cons rfl (Sub.cons rfl (Sub.cons rfl (Sub.cons rfl (Sub.cons rfl (Sub.cons rfl (Sub.cons rfl (Sub.cons rfl (Sub.cons rfl (Sub.cons rfl Sub.nil))))))))))).drop (List.Sublist.cons_cons _ (List.Sublist.refl _)))
              · skip
                refine st_alloc_agg Try.zeroValue34 hS rfl rfl fun W a b5 hS => wl_nil ?_
                refine anyh_next [false, true, true, true] hS (fun _ h => h) rfl ?_
                refine anyh_go (rs := [6]) (by kernel_rfl) (by simp) ⟨⟨_, rfl, ?_⟩, trivial⟩
                refine st_call (top_one) Try.call42 hS rfl rfl rfl fun v W a hR hB hlt hS => ?_
                subst hR
                refine wl_nil ?_
                refine anyh_next [false, true, true, true] hS (fun _ h => h) rfl ?_
                refine anyh_go (rs := [7]) (by kernel_rfl) (by simp) ⟨⟨_, rfl, ?_⟩, trivial⟩
                refine st_call (rotor_Flow Vr r (smallOf A n) (one sp) (Hr _ hS.below)) Try.call41 hS rfl rfl rfl fun v W a hR hB hlt hS => ?_
                subst hR
                refine wl_nil ?_
                refine anyh_next [false, true, true, true] hS (fun _ h => h) rfl ?_
                refine anyh_take (i := 8) [false, true, true, true] hS (fun _ h => h) rfl rfl (by kernel_rfl) (by kernel_rfl) (by kernel_rfl) rfl rfl (fun W' hS => run_move hS rfl) fun a hS => ?_
                refine anyh_take (i := 9) [false, true, true, true] hS (fun _ h => h) rfl rfl (by kernel_rfl) (by kernel_rfl) (by kernel_rfl) rfl rfl (fun W' hS => run_extract hS rfl rfl) fun a hS => ?_
                refine anyh_take (i := 10) [false, true, true, true] hS (fun _ h => h) rfl rfl (by kernel_rfl) (by kernel_rfl) (by kernel_rfl) rfl rfl (fun W' hS => run_extract hS rfl rfl) fun a hS => ?_
                refine anyh_go (rs := [12]) (by kernel_rfl) (by simp) ⟨⟨_, rfl, ?_⟩, trivial⟩
                refine st_store (i := 0) Try.sizeOf34 hS rfl rfl rfl rfl rfl rfl rfl rfl rfl fun W a hS => wl_nil ?_
                refine anyh_next [false, true, true, true] hS (fun _ h => h) rfl ?_
                refine anyh_take (i := 13) [false, true, true, true] hS (fun _ h => h) rfl rfl (by kernel_rfl) (by kernel_rfl) (by kernel_rfl) rfl rfl (fun W' hS => run_assign hS rfl) fun a hS => ?_
                refine anyh_done (by kernel_rfl) ?_ _
                refine cut_end ⟨b5, ?_⟩
                dsimp only [List.cons_append, List.nil_append]
                exact ((hS.sub (Sub.cons rfl (Sub.cons rfl (Sub.cons rfl (Sub.cons rfl (Sub.cons rfl (Sub.cons rfl (Sub.cons rfl (Sub.cons rfl (Sub.cons rfl (Sub.cons rfl Sub.nil))))))))))).drop (List.Sublist.cons_cons _ (List.Sublist.refl _)))
            · intro W a b6 hS
              dsimp only [List.cons_append, List.nil_append] at hS
              refine wpIn_seq ?_
              refine wpIn_seq ?_
              refine wpIn_region_lit ?_
              refine st_v hS rfl rfl (run_move hS rfl) fun a hS => st_v hS rfl rfl (run_bin hS rfl rfl rfl) fun a hS => st_v hS rfl rfl (run_move hS rfl) fun a hS => ?_
              refine st_split (d := 101) hS rfl (fun hc6 hS => ?_) (fun hc6 hS => ?_)
              · skip
                try simp only [decide_eq_true_eq, decide_eq_false_iff_not, Bool.not_eq_true', Bool.not_eq_false', bne_iff_ne, beq_iff_eq, bne_eq_false_iff_eq, beq_eq_false_iff_ne, ne_eq, Int.not_le, Int.not_lt, ge_iff_le, gt_iff_lt] at hc6
                exact absurd hF.1 hc6
              · skip
                try simp only [decide_eq_true_eq, decide_eq_false_iff_not, Bool.not_eq_true', Bool.not_eq_false', bne_iff_ne, beq_iff_eq, bne_eq_false_iff_eq, beq_eq_false_iff_ne, ne_eq, Int.not_le, Int.not_lt, ge_iff_le, gt_iff_lt] at hc6
                
                refine st_v hS (hS.wanted rfl rfl rfl) rfl (run_fieldAddr fa34_1 hS rfl) fun a hS => st_v hS (hS.wanted rfl rfl rfl) rfl (run_load_one (i := 0) Try.isAgg3 hS rfl rfl rfl) fun a hS => st_v hS (hS.wanted rfl rfl rfl) rfl (run_move hS rfl) fun a hS => st_v hS (hS.wanted rfl rfl rfl) rfl (run_bin hS rfl rfl rfl) fun a hS => st_v hS rfl rfl (run_pick_f hS rfl rfl) fun a hS => st_v hS rfl rfl (run_move hS rfl) fun a hS => ?_
                refine st_split (d := 107) hS rfl (fun hc7 hS => ?_) (fun hc7 hS => ?_)
                · skip
                  try simp only [decide_eq_true_eq, decide_eq_false_iff_not, Bool.not_eq_true', Bool.not_eq_false', bne_iff_ne, beq_iff_eq, bne_eq_false_iff_eq, beq_eq_false_iff_ne, ne_eq, Int.not_le, Int.not_lt, ge_iff_le, gt_iff_lt] at hc7
                  have := hF.2; omega
                · skip
                  try simp only [decide_eq_true_eq, decide_eq_false_iff_not, Bool.not_eq_true', Bool.not_eq_false', bne_iff_ne, beq_iff_eq, bne_eq_false_iff_eq, beq_eq_false_iff_ne, ne_eq, Int.not_le, Int.not_lt, ge_iff_le, gt_iff_lt] at hc7
                  
                  refine st_v hS (hS.wanted rfl rfl rfl) rfl (run_fieldAddr fa34_0 hS rfl) fun a hS => st_v hS (hS.wanted rfl rfl rfl) rfl (run_load_one (i := 0) Try.isAgg3 hS rfl rfl rfl) fun a hS => st_v hS (hS.wanted rfl rfl rfl) rfl (run_bin hS rfl rfl rfl) fun a hS => st_v hS rfl rfl (run_pick_f hS rfl rfl) fun a hS => wl_nil ?_
                  refine st_cond hS rfl (fun hc8 => ?_) (fun hc8 => ?_)
                  · skip
                    try simp only [decide_eq_true_eq, decide_eq_false_iff_not, Bool.not_eq_true', Bool.not_eq_false', bne_iff_ne, beq_iff_eq, bne_eq_false_iff_eq, beq_eq_false_iff_ne, ne_eq, Int.not_le, Int.not_lt, ge_iff_le, gt_iff_lt] at hc8
                    omega
                  · skip
                    try simp only [decide_eq_true_eq, decide_eq_false_iff_not, Bool.not_eq_true', Bool.not_eq_false', bne_iff_ne, beq_iff_eq, bne_eq_false_iff_eq, beq_eq_false_iff_ne, ne_eq, Int.not_le, Int.not_lt, ge_iff_le, gt_iff_lt] at hc8
                    
                    refine wpIn_skip ?_
                    refine wpIn_seq ?_
                    refine wpIn_seq ?_
                    refine wpIn_region_lit ?_
                    refine st_v hS rfl rfl (run_fieldAddr fa76_1 hS rfl) fun a hS => st_v hS rfl rfl (run_load_one (i := 2) Try.isAgg3 hS rfl rfl rfl) fun a hS => st_v hS rfl rfl (run_bin hS rfl rfl rfl) fun a hS => st_v hS rfl rfl (run_move hS rfl) fun a hS => ?_
                    refine st_split (d := 115) hS rfl (fun hc9 hS => ?_) (fun hc9 hS => ?_)
                    · skip
                      try simp only [decide_eq_true_eq, decide_eq_false_iff_not, Bool.not_eq_true', Bool.not_eq_false', bne_iff_ne, beq_iff_eq, bne_eq_false_iff_eq, beq_eq_false_iff_ne, ne_eq, Int.not_le, Int.not_lt, ge_iff_le, gt_iff_lt] at hc9
                      refine st_skip hS (hS.unwanted rfl rfl rfl rfl) rfl fun a hS => st_skip hS (hS.unwanted rfl rfl rfl rfl) rfl fun a hS => st_skip hS (hS.unwanted rfl rfl rfl rfl) rfl fun a hS => st_v hS rfl rfl (run_pick_t hS rfl rfl) fun a hS => wl_nil ?_
                      refine st_cond_t hS rfl ?_
                      refine wpIn_seq ?_
                      refine wpIn_region_lit ?_
                      refine st_call (top_measures) Try.call38 hS rfl rfl rfl fun v W a hR hB hlt hS => ?_
                      subst hR
                      refine st_v hS rfl rfl (run_assign hS rfl) fun a hS => wl_nil ?_
                      refine wpIn_ret ?_
                      repeat (first | refine q_ret ?_ | refine q_block_ret ?_)
                      refine hS.done (res1 (fn := Try.f9) (r1 := .tmp 4) rfl (rv_tmp hS rfl)) ?_
                      rfl
                    · skip
                      try simp only [decide_eq_true_eq, decide_eq_false_iff_not, Bool.not_eq_true', Bool.not_eq_false', bne_iff_ne, beq_iff_eq, bne_eq_false_iff_eq, beq_eq_false_iff_ne, ne_eq, Int.not_le, Int.not_lt, ge_iff_le, gt_iff_lt] at hc9
                      
                      refine st_v hS (hS.wanted rfl rfl rfl) rfl (run_fieldAddr fa76_1 hS rfl) fun a hS => st_v hS (hS.wanted rfl rfl rfl) rfl (run_load_one (i := 2) Try.isAgg3 hS rfl rfl rfl) fun a hS => st_v hS (hS.wanted rfl rfl rfl) rfl (run_bin hS rfl rfl rfl) fun a hS => st_v hS rfl rfl (run_pick_f hS rfl rfl) fun a hS => wl_nil ?_
                      refine st_cond hS rfl (fun hc10 => ?_) (fun hc10 => ?_)
                      · skip
                        try simp only [decide_eq_true_eq, decide_eq_false_iff_not, Bool.not_eq_true', Bool.not_eq_false', bne_iff_ne, beq_iff_eq, bne_eq_false_iff_eq, beq_eq_false_iff_ne, ne_eq, Int.not_le, Int.not_lt, ge_iff_le, gt_iff_lt] at hc10
                        refine wpIn_seq ?_
                        refine wpIn_region_lit ?_
                        refine st_call (top_measures) Try.call38 hS rfl rfl rfl fun v W a hR hB hlt hS => ?_
                        subst hR
                        refine st_v hS rfl rfl (run_assign hS rfl) fun a hS => wl_nil ?_
                        refine wpIn_ret ?_
                        repeat (first | refine q_ret ?_ | refine q_block_ret ?_)
                        refine hS.done (res1 (fn := Try.f9) (r1 := .tmp 4) rfl (rv_tmp hS rfl)) ?_
                        rfl
                      · skip
                        try simp only [decide_eq_true_eq, decide_eq_false_iff_not, Bool.not_eq_true', Bool.not_eq_false', bne_iff_ne, beq_iff_eq, bne_eq_false_iff_eq, beq_eq_false_iff_ne, ne_eq, Int.not_le, Int.not_lt, ge_iff_le, gt_iff_lt] at hc10
                        have hp1 := prod_in (a := (flowV r (smallOf A n) (one sp)).hi) (b := tk) (A := 1000000) (B := 2000) (by omega) (by omega) (by omega) (by omega); have hp2 := prod_in (a := (flowV r A (one sp)).hi) (b := tk) (A := 1000000) (B := 2000) (by omega) (by omega) (by omega) (by omega)
                        have hle : (flowV r (smallOf A n) (one sp)).hi * tk ≤ (flowV r A (one sp)).hi * tk := Int.mul_le_mul_of_nonneg_right hF.2 (by omega)
                        refine wpIn_skip ?_
                        refine wpIn_seq ?_
                        refine wpIn_region_lit ?_
                        refine st_v hS rfl rfl (run_fieldAddr fa34_1 hS rfl) fun a hS => st_v hS rfl rfl (run_load_one (i := 0) Try.isAgg3 hS rfl rfl rfl) fun a hS => st_v hS rfl rfl (run_fieldAddr fa76_1 hS rfl) fun a hS => st_v hS rfl rfl (run_load_one (i := 2) Try.isAgg3 hS rfl rfl rfl) fun a hS => st_v hS rfl rfl (run_mul (t := ((flowV r (smallOf A n) (one sp)).hi * tk)) hS rfl rfl (by rfl) (by omega)) fun a hS => st_v hS rfl rfl (run_move hS rfl) fun a hS => st_v hS rfl rfl (run_fieldAddr fa76_1 hS rfl) fun a hS => st_v hS rfl rfl (run_load_one (i := 2) Try.isAgg3 hS rfl rfl rfl) fun a hS => st_v hS rfl rfl (run_mul (t := ((flowV r A (one sp)).hi * tk)) hS rfl rfl (by rfl) (by omega)) fun a hS => st_v hS rfl rfl (run_bin hS rfl rfl rfl) fun a hS => st_v hS rfl rfl (run_move hS rfl) fun a hS => ?_
                        refine st_split (d := 131) hS rfl (fun hc11 hS => ?_) (fun hc11 hS => ?_)
                        · skip
                          try simp only [decide_eq_true_eq, decide_eq_false_iff_not, Bool.not_eq_true', Bool.not_eq_false', bne_iff_ne, beq_iff_eq, bne_eq_false_iff_eq, beq_eq_false_iff_ne, ne_eq, Int.not_le, Int.not_lt, ge_iff_le, gt_iff_lt] at hc11
                          refine st_call (top_measures) Try.call38 hS (hS.wanted rfl rfl rfl) rfl rfl fun v W a hR hB hlt hS => ?_
                          subst hR
                          refine st_v hS rfl rfl (run_pick_t hS rfl rfl) fun a hS => st_v hS rfl rfl (run_assign hS rfl) fun a hS => wl_nil ?_
                          have hS := hS.sub (κ' := [(9, _), (8, _), (0, _), (1, _), (2, _), (3, _), (4, _), (5, _), (6, _), (7, _)]) (Sub.cons rfl (Sub.cons rfl (Sub.cons rfl (Sub.cons rfl (Sub.cons rfl (Sub.cons rfl (Sub.cons rfl (Sub.cons rfl (Sub.cons rfl (Sub.cons rfl Sub.nil))))))))))
                          refine wpIn_ret ?_
                          repeat (first | refine q_ret ?_ | refine q_block_ret ?_)
                          refine hS.done (res1 (fn := Try.f9) (r1 := .tmp 4) rfl (rv_tmp hS rfl)) ?_
                          rfl
                        · skip
                          try simp only [decide_eq_true_eq, decide_eq_false_iff_not, Bool.not_eq_true', Bool.not_eq_false', bne_iff_ne, beq_iff_eq, bne_eq_false_iff_eq, beq_eq_false_iff_ne, ne_eq, Int.not_le, Int.not_lt, ge_iff_le, gt_iff_lt] at hc11
                          exact absurd hle (by first | exact Int.not_le.2 hc11 | exact hc11)

end Go.Proofs.Ytdnodlgebpnfoaa
