/- The specification's functions of rotors: margins of power, walked. -/
import Derived.Test.YtdnodlgebpnfoaaRotor2
namespace Go.Proofs.Ytdnodlgebpnfoaa
open Go Go.RowKit Go.Shelf Sw
set_option linter.unusedVariables false
set_option linter.unusedSimpArgs false

theorem t2i {p q e e' : Int} (h1 : p = q) (h2 : e = e') : Value.tuple #[.int .i64 p, .int .i64 e] = Value.tuple #[.int .i64 q, .int .i64 e'] := by subst h1 h2; rfl
theorem t1s {p q : Span} (h : p = q) : Value.agg (spanC p).toArray = .agg (spanC q).toArray := by subst h; rfl
theorem errC_t {r : Rot} {a : Air} {b : Bool} (h : ¬ errC r a true = 0) : errC r a b = errC r a true := by
  unfold errC at *
  cases h1 : rotOk r <;> cases h2 : airOk a <;> simp [h1, h2] at h ⊢
theorem errC_tf {r : Rot} {a : Air} {b : Bool} (h1 : rotOk r = true) (h2 : airOk a = true) (h : b = false) : errC r a b = 1 := by subst h; exact errC_if h1 h2
theorem errC_tt {r : Rot} {a : Air} {b : Bool} (h1 : rotOk r = true) (h2 : airOk a = true) (h : b = true) : errC r a b = 0 := by subst h; exact errC_if h1 h2


set_option maxHeartbeats 2000000 in
set_option maxRecDepth 100000 in
theorem ref02_CheckAir  (Vr : RV) (r : Rot) (A : Air) {w : World} {Fr : Nat → Prop} (hr : RotR Fr w Vr r)  : Ret Try.prog 24 [.agg (rotC Vr r).toArray, .agg (airC A).toArray] w (fun v _ => v = .int .i64 (errC r A true)) := by
  refine ret_start (n := 33) Try.func24 rfl rfl rfl (fun a hS => ?_)
  have Hr : ∀ W, Below w.heap.size w W → RotR Fr W Vr r := fun W hb => hr.move (keep_of hb)
  refine wpIn_seq ?_
  refine wpIn_region_lit ?_
  refine st_box_agg hS rfl rfl rfl fun W a b0 hS => st_box_agg hS rfl rfl rfl fun W a b1 hS => st_v hS rfl rfl (run_assign hS rfl) fun a hS => wl_nil ?_
  refine wpIn_seq ?_
  refine wpIn_region_lit ?_
  refine st_v hS rfl rfl (run_load_all (i := 1) Try.isAgg27 Try.sizeOf27 hS rfl rfl rfl) fun a hS => st_call (ref02_Check Vr r (Hr _ hS.below)) Try.call19 hS rfl rfl rfl fun v W a hR hB hlt hS => ?_
  subst hR
  refine st_v hS rfl rfl (run_assign hS rfl) fun a hS => wl_nil ?_
  refine wpIn_seq ?_
  refine wpIn_seq ?_
  refine wpIn_region_lit ?_
  refine st_v hS rfl rfl (run_move hS rfl) fun a hS => st_v hS rfl rfl (run_bin hS rfl rfl rfl) fun a hS => wl_nil ?_
  refine st_cond hS rfl (fun hc1 => ?_) (fun hc1 => ?_)
  · skip
    try simp only [decide_eq_true_eq, decide_eq_false_iff_not, Bool.not_eq_true', Bool.not_eq_false', bne_iff_ne, beq_iff_eq, bne_eq_false_iff_eq, beq_eq_false_iff_ne, ne_eq, Int.not_le, Int.not_lt, ge_iff_le, gt_iff_lt] at hc1
    refine wpIn_seq ?_
    refine wpIn_region_lit ?_
    refine st_v hS rfl rfl (run_move hS rfl) fun a hS => st_v hS rfl rfl (run_assign hS rfl) fun a hS => wl_nil ?_
    refine wpIn_ret ?_
    repeat (first | refine q_ret ?_ | refine q_block_ret ?_)
    refine hS.done (res1 (fn := Try.f24) (r1 := .tmp 4) rfl (rv_tmp hS rfl)) ?_
    rw [errC_rot (chk_no hc1), checkRot, chk_no hc1]; rfl
  · skip
    try simp only [decide_eq_true_eq, decide_eq_false_iff_not, Bool.not_eq_true', Bool.not_eq_false', bne_iff_ne, beq_iff_eq, bne_eq_false_iff_eq, beq_eq_false_iff_ne, ne_eq, Int.not_le, Int.not_lt, ge_iff_le, gt_iff_lt] at hc1
    have hrok := chk_ok hc1
    refine wpIn_skip ?_
    refine wpIn_seq ?_
    refine wpIn_seq ?_
    refine wpIn_region_lit ?_
    refine st_v hS rfl rfl (run_fieldAddr fa36_0 hS rfl) fun a hS => st_v hS rfl rfl (run_load_agg (i := 0) (vs := [_, _]) Try.isAgg34 Try.sizeOf34 hS rfl rfl rfl ⟨rfl, rfl, trivial⟩) fun a hS => st_call (ref01_Valid A.weight) Try.call25 hS rfl rfl rfl fun v W a hR hB hlt hS => ?_
    subst hR
    refine st_v hS rfl rfl (run_not hS rfl) fun a hS => st_v hS rfl rfl (run_move hS rfl) fun a hS => ?_
    refine st_split (d := 15) hS rfl (fun hc2 hS => ?_) (fun hc2 hS => ?_)
    · skip
      try simp only [decide_eq_true_eq, decide_eq_false_iff_not, Bool.not_eq_true', Bool.not_eq_false', bne_iff_ne, beq_iff_eq, bne_eq_false_iff_eq, beq_eq_false_iff_ne, ne_eq, Int.not_le, Int.not_lt, ge_iff_le, gt_iff_lt] at hc2
      refine st_skip hS (hS.unwanted rfl rfl rfl rfl) rfl fun a hS => st_skip hS (hS.unwanted rfl rfl rfl rfl) rfl fun a hS => st_skip hS (hS.unwanted rfl rfl rfl rfl) rfl fun a hS => st_skip hS (hS.unwanted rfl rfl rfl rfl) rfl fun a hS => st_v hS rfl rfl (run_pick_t hS rfl rfl) fun a hS => st_v hS rfl rfl (run_move hS rfl) fun a hS => st_skip hS (hS.unwanted rfl rfl rfl rfl) rfl fun a hS => st_skip hS (hS.unwanted rfl rfl rfl rfl) rfl fun a hS => st_skip hS (hS.unwanted rfl rfl rfl rfl) rfl fun a hS => st_skip hS (hS.unwanted rfl rfl rfl rfl) rfl fun a hS => st_v hS rfl rfl (run_pick_t hS rfl rfl) fun a hS => st_v hS rfl rfl (run_move hS rfl) fun a hS => st_skip hS (hS.unwanted rfl rfl rfl rfl) rfl fun a hS => st_skip hS (hS.unwanted rfl rfl rfl rfl) rfl fun a hS => st_skip hS (hS.unwanted rfl rfl rfl rfl) rfl fun a hS => st_skip hS (hS.unwanted rfl rfl rfl rfl) rfl fun a hS => st_v hS rfl rfl (run_pick_t hS rfl rfl) fun a hS => wl_nil ?_
      have hS := hS.sub (κ' := [(0, _), (1, _), (2, _), (3, _), (4, _), (5, _), (32, _)]) (Sub.cons rfl (Sub.cons rfl (Sub.cons rfl (Sub.cons rfl (Sub.cons rfl (Sub.cons rfl (Sub.cons rfl Sub.nil)))))))
      refine st_cond_t hS rfl ?_
      refine wpIn_seq ?_
      refine wpIn_region_lit ?_
      refine st_v hS rfl rfl (run_assign hS rfl) fun a hS => wl_nil ?_
      refine wpIn_ret ?_
      repeat (first | refine q_ret ?_ | refine q_block_ret ?_)
      refine hS.done (res1 (fn := Try.f24) (r1 := .tmp 4) rfl (rv_tmp hS rfl)) ?_
      rw [errC_air hrok (by simp [airOk, hc1, hc2])]
    · skip
      try simp only [decide_eq_true_eq, decide_eq_false_iff_not, Bool.not_eq_true', Bool.not_eq_false', bne_iff_ne, beq_iff_eq, bne_eq_false_iff_eq, beq_eq_false_iff_ne, ne_eq, Int.not_le, Int.not_lt, ge_iff_le, gt_iff_lt] at hc2
      refine st_v hS (hS.wanted rfl rfl rfl) rfl (run_fieldAddr fa36_1 hS rfl) fun a hS => st_v hS (hS.wanted rfl rfl rfl) rfl (run_load_agg (i := 0) (vs := [_, _]) Try.isAgg34 Try.sizeOf34 hS rfl rfl rfl ⟨rfl, rfl, trivial⟩) fun a hS => st_call (ref01_Valid A.temp) Try.call25 hS (hS.wanted rfl rfl rfl) rfl rfl fun v W a hR hB hlt hS => ?_
      subst hR
      refine st_v hS (hS.wanted rfl rfl rfl) rfl (run_not hS rfl) fun a hS => st_v hS rfl rfl (run_pick_f hS rfl rfl) fun a hS => st_v hS rfl rfl (run_move hS rfl) fun a hS => ?_
      refine st_split (d := 21) hS rfl (fun hc3 hS => ?_) (fun hc3 hS => ?_)
      · skip
        try simp only [decide_eq_true_eq, decide_eq_false_iff_not, Bool.not_eq_true', Bool.not_eq_false', bne_iff_ne, beq_iff_eq, bne_eq_false_iff_eq, beq_eq_false_iff_ne, ne_eq, Int.not_le, Int.not_lt, ge_iff_le, gt_iff_lt] at hc3
        refine st_skip hS (hS.unwanted rfl rfl rfl rfl) rfl fun a hS => st_skip hS (hS.unwanted rfl rfl rfl rfl) rfl fun a hS => st_skip hS (hS.unwanted rfl rfl rfl rfl) rfl fun a hS => st_skip hS (hS.unwanted rfl rfl rfl rfl) rfl fun a hS => st_v hS rfl rfl (run_pick_t hS rfl rfl) fun a hS => st_v hS rfl rfl (run_move hS rfl) fun a hS => st_skip hS (hS.unwanted rfl rfl rfl rfl) rfl fun a hS => st_skip hS (hS.unwanted rfl rfl rfl rfl) rfl fun a hS => st_skip hS (hS.unwanted rfl rfl rfl rfl) rfl fun a hS => st_skip hS (hS.unwanted rfl rfl rfl rfl) rfl fun a hS => st_v hS rfl rfl (run_pick_t hS rfl rfl) fun a hS => wl_nil ?_
        have hS := hS.sub (κ' := [(0, _), (1, _), (2, _), (3, _), (4, _), (5, _), (32, _)]) (Sub.cons rfl (Sub.cons rfl (Sub.cons rfl (Sub.cons rfl (Sub.cons rfl (Sub.cons rfl (Sub.cons rfl Sub.nil)))))))
        refine st_cond_t hS rfl ?_
        refine wpIn_seq ?_
        refine wpIn_region_lit ?_
        refine st_v hS rfl rfl (run_assign hS rfl) fun a hS => wl_nil ?_
        refine wpIn_ret ?_
        repeat (first | refine q_ret ?_ | refine q_block_ret ?_)
        refine hS.done (res1 (fn := Try.f24) (r1 := .tmp 4) rfl (rv_tmp hS rfl)) ?_
        rw [errC_air hrok (by simp [airOk, hc1, hc2, hc3])]
      · skip
        try simp only [decide_eq_true_eq, decide_eq_false_iff_not, Bool.not_eq_true', Bool.not_eq_false', bne_iff_ne, beq_iff_eq, bne_eq_false_iff_eq, beq_eq_false_iff_ne, ne_eq, Int.not_le, Int.not_lt, ge_iff_le, gt_iff_lt] at hc3
        refine st_v hS (hS.wanted rfl rfl rfl) rfl (run_fieldAddr fa36_2 hS rfl) fun a hS => st_v hS (hS.wanted rfl rfl rfl) rfl (run_load_agg (i := 0) (vs := [_, _]) Try.isAgg34 Try.sizeOf34 hS rfl rfl rfl ⟨rfl, rfl, trivial⟩) fun a hS => st_call (ref01_Valid A.height) Try.call25 hS (hS.wanted rfl rfl rfl) rfl rfl fun v W a hR hB hlt hS => ?_
        subst hR
        refine st_v hS (hS.wanted rfl rfl rfl) rfl (run_not hS rfl) fun a hS => st_v hS rfl rfl (run_pick_f hS rfl rfl) fun a hS => st_v hS rfl rfl (run_move hS rfl) fun a hS => ?_
        refine st_split (d := 27) hS rfl (fun hc4 hS => ?_) (fun hc4 hS => ?_)
        · skip
          try simp only [decide_eq_true_eq, decide_eq_false_iff_not, Bool.not_eq_true', Bool.not_eq_false', bne_iff_ne, beq_iff_eq, bne_eq_false_iff_eq, beq_eq_false_iff_ne, ne_eq, Int.not_le, Int.not_lt, ge_iff_le, gt_iff_lt] at hc4
          refine st_skip hS (hS.unwanted rfl rfl rfl rfl) rfl fun a hS => st_skip hS (hS.unwanted rfl rfl rfl rfl) rfl fun a hS => st_skip hS (hS.unwanted rfl rfl rfl rfl) rfl fun a hS => st_skip hS (hS.unwanted rfl rfl rfl rfl) rfl fun a hS => st_v hS rfl rfl (run_pick_t hS rfl rfl) fun a hS => wl_nil ?_
          have hS := hS.sub (κ' := [(0, _), (1, _), (2, _), (3, _), (4, _), (5, _), (32, _)]) (Sub.cons rfl (Sub.cons rfl (Sub.cons rfl (Sub.cons rfl (Sub.cons rfl (Sub.cons rfl (Sub.cons rfl Sub.nil)))))))
          refine st_cond_t hS rfl ?_
          refine wpIn_seq ?_
          refine wpIn_region_lit ?_
          refine st_v hS rfl rfl (run_assign hS rfl) fun a hS => wl_nil ?_
          refine wpIn_ret ?_
          repeat (first | refine q_ret ?_ | refine q_block_ret ?_)
          refine hS.done (res1 (fn := Try.f24) (r1 := .tmp 4) rfl (rv_tmp hS rfl)) ?_
          rw [errC_air hrok (by simp [airOk, hc1, hc2, hc3, hc4])]
        · skip
          try simp only [decide_eq_true_eq, decide_eq_false_iff_not, Bool.not_eq_true', Bool.not_eq_false', bne_iff_ne, beq_iff_eq, bne_eq_false_iff_eq, beq_eq_false_iff_ne, ne_eq, Int.not_le, Int.not_lt, ge_iff_le, gt_iff_lt] at hc4
          refine st_v hS (hS.wanted rfl rfl rfl) rfl (run_fieldAddr fa36_3 hS rfl) fun a hS => st_v hS (hS.wanted rfl rfl rfl) rfl (run_load_agg (i := 0) (vs := [_, _]) Try.isAgg34 Try.sizeOf34 hS rfl rfl rfl ⟨rfl, rfl, trivial⟩) fun a hS => st_call (ref01_Valid A.wind) Try.call25 hS (hS.wanted rfl rfl rfl) rfl rfl fun v W a hR hB hlt hS => ?_
          subst hR
          refine st_v hS (hS.wanted rfl rfl rfl) rfl (run_not hS rfl) fun a hS => st_v hS rfl rfl (run_pick_f hS rfl rfl) fun a hS => wl_nil ?_
          have hS := hS.sub (κ' := [(0, _), (1, _), (2, _), (3, _), (4, _), (5, _), (32, _)]) (Sub.cons rfl (Sub.cons rfl (Sub.cons rfl (Sub.cons rfl (Sub.cons rfl (Sub.cons rfl (Sub.cons rfl Sub.nil)))))))
          refine st_cond hS rfl (fun hc5 => ?_) (fun hc5 => ?_)
          · skip
            try simp only [decide_eq_true_eq, decide_eq_false_iff_not, Bool.not_eq_true', Bool.not_eq_false', bne_iff_ne, beq_iff_eq, bne_eq_false_iff_eq, beq_eq_false_iff_ne, ne_eq, Int.not_le, Int.not_lt, ge_iff_le, gt_iff_lt] at hc5
            refine wpIn_seq ?_
            refine wpIn_region_lit ?_
            refine st_v hS rfl rfl (run_assign hS rfl) fun a hS => wl_nil ?_
            refine wpIn_ret ?_
            repeat (first | refine q_ret ?_ | refine q_block_ret ?_)
            refine hS.done (res1 (fn := Try.f24) (r1 := .tmp 4) rfl (rv_tmp hS rfl)) ?_
            rw [errC_air hrok (by simp [airOk, hc1, hc2, hc3, hc4, hc5])]
          · skip
            try simp only [decide_eq_true_eq, decide_eq_false_iff_not, Bool.not_eq_true', Bool.not_eq_false', bne_iff_ne, beq_iff_eq, bne_eq_false_iff_eq, beq_eq_false_iff_ne, ne_eq, Int.not_le, Int.not_lt, ge_iff_le, gt_iff_lt] at hc5
            refine wpIn_skip ?_
            refine wpIn_seq ?_
            refine wpIn_region_lit ?_
            refine st_v hS rfl rfl (run_assign hS rfl) fun a hS => wl_nil ?_
            refine wpIn_ret ?_
            repeat (first | refine q_ret ?_ | refine q_block_ret ?_)
            refine hS.done (res1 (fn := Try.f24) (r1 := .tmp 4) rfl (rv_tmp hS rfl)) ?_
            rw [errC_if hrok (by simp [airOk, hc1, hc2, hc3, hc4, hc5])]; rfl


set_option maxHeartbeats 2000000 in
set_option maxRecDepth 100000 in
theorem ref02_lies  (Vt : TV) (t : Tab) (p : Span) (q : Span) {w : World} {Ft : Nat → Prop} (ht : TabR Ft w Vt t) (hok : tabOk t = true) : Ret Try.prog 75 [.agg (tabC Vt t).toArray, .agg (spanC p).toArray, .agg (spanC q).toArray] w (fun v _ => v = .bool (p.ok && q.ok && liesT t p q)) := by
  refine ret_start (n := 25) Try.func75 rfl rfl rfl (fun a hS => ?_)
  have Ht : ∀ W, Below w.heap.size w W → TabR Ft W Vt t := fun W hb => ht.move (keep_of hb)
  have hmtx := ht.1.len
  have hmty := ht.2.1.len
  have hmtv := ht.2.2.len
  obtain ⟨hX, hY, _, _⟩ := tab_axes hok
  have h2 := hX.two; have h3 := hY.two
  refine wpIn_seq ?_
  refine wpIn_region_lit ?_
  refine st_box_agg hS rfl rfl rfl fun W a b0 hS => st_box_agg hS rfl rfl rfl fun W a b1 hS => st_box_agg hS rfl rfl rfl fun W a b2 hS => st_v hS rfl rfl (run_assign hS rfl) fun a hS => wl_nil ?_
  refine wpIn_seq ?_
  refine wpIn_region_lit ?_
  refine st_v hS rfl rfl (run_load_all (i := 1) Try.isAgg34 Try.sizeOf34 hS rfl rfl rfl) fun a hS => st_call (ref01_Valid p) Try.call25 hS rfl rfl rfl fun v W a hR hB hlt hS => ?_
  subst hR
  refine st_v hS rfl rfl (run_move hS rfl) fun a hS => ?_
  refine st_split (d := 9) hS rfl (fun hc1 hS => ?_) (fun hc1 hS => ?_)
  · skip
    try simp only [decide_eq_true_eq, decide_eq_false_iff_not, Bool.not_eq_true', Bool.not_eq_false', bne_iff_ne, beq_iff_eq, bne_eq_false_iff_eq, beq_eq_false_iff_ne, ne_eq, Int.not_le, Int.not_lt, ge_iff_le, gt_iff_lt] at hc1
    refine st_v hS (hS.wanted rfl rfl rfl) rfl (run_load_all (i := 0) Try.isAgg34 Try.sizeOf34 hS rfl rfl rfl) fun a hS => st_call (ref01_Valid q) Try.call25 hS (hS.wanted rfl rfl rfl) rfl rfl fun v W a hR hB hlt hS => ?_
    subst hR
    refine st_v hS rfl rfl (run_pick_t hS rfl rfl) fun a hS => st_v hS rfl rfl (run_move hS rfl) fun a hS => ?_
    refine st_split (d := 13) hS rfl (fun hc2 hS => ?_) (fun hc2 hS => ?_)
    · skip
      try simp only [decide_eq_true_eq, decide_eq_false_iff_not, Bool.not_eq_true', Bool.not_eq_false', bne_iff_ne, beq_iff_eq, bne_eq_false_iff_eq, beq_eq_false_iff_ne, ne_eq, Int.not_le, Int.not_lt, ge_iff_le, gt_iff_lt] at hc2
      refine st_v hS (hS.wanted rfl rfl rfl) rfl (run_fieldAddr fa25_0 hS rfl) fun a hS => st_v hS (hS.wanted rfl rfl rfl) rfl (run_load_one (i := 2) Try.isAgg22 hS rfl rfl rfl) fun a hS => st_v hS (hS.wanted rfl rfl rfl) rfl (run_load_all (i := 1) Try.isAgg34 Try.sizeOf34 hS rfl rfl rfl) fun a hS => st_call (ref01_Between Vt.x t.X p ((fun W hC => (Ht W hC).1) _ hS.below) (by omega)) Try.call103 hS (hS.wanted rfl rfl rfl) rfl rfl fun v W a hR hB hlt hS => ?_
      subst hR
      refine st_v hS rfl rfl (run_pick_t hS rfl rfl) fun a hS => st_v hS rfl rfl (run_move hS rfl) fun a hS => ?_
      refine st_split (d := 19) hS rfl (fun hc3 hS => ?_) (fun hc3 hS => ?_)
      · skip
        try simp only [decide_eq_true_eq, decide_eq_false_iff_not, Bool.not_eq_true', Bool.not_eq_false', bne_iff_ne, beq_iff_eq, bne_eq_false_iff_eq, beq_eq_false_iff_ne, ne_eq, Int.not_le, Int.not_lt, ge_iff_le, gt_iff_lt] at hc3
        refine st_v hS (hS.wanted rfl rfl rfl) rfl (run_fieldAddr fa25_1 hS rfl) fun a hS => st_v hS (hS.wanted rfl rfl rfl) rfl (run_load_one (i := 2) Try.isAgg22 hS rfl rfl rfl) fun a hS => st_v hS (hS.wanted rfl rfl rfl) rfl (run_load_all (i := 0) Try.isAgg34 Try.sizeOf34 hS rfl rfl rfl) fun a hS => st_call (ref01_Between Vt.y t.Y q ((fun W hC => (Ht W hC).2.1) _ hS.below) (by omega)) Try.call103 hS (hS.wanted rfl rfl rfl) rfl rfl fun v W a hR hB hlt hS => ?_
        subst hR
        refine st_v hS rfl rfl (run_pick_t hS rfl rfl) fun a hS => st_v hS rfl rfl (run_assign hS rfl) fun a hS => wl_nil ?_
        refine wpIn_ret ?_
        repeat (first | refine q_ret ?_ | refine q_block_ret ?_)
        refine hS.done (res1 (fn := Try.f75) (r1 := .tmp 6) rfl (rv_tmp hS rfl)) ?_
        refine vb ?_; simp [liesT, hc1, hc2, hc3]
      · skip
        try simp only [decide_eq_true_eq, decide_eq_false_iff_not, Bool.not_eq_true', Bool.not_eq_false', bne_iff_ne, beq_iff_eq, bne_eq_false_iff_eq, beq_eq_false_iff_ne, ne_eq, Int.not_le, Int.not_lt, ge_iff_le, gt_iff_lt] at hc3
        refine st_skip hS (hS.unwanted rfl rfl rfl rfl) rfl fun a hS => st_skip hS (hS.unwanted rfl rfl rfl rfl) rfl fun a hS => st_skip hS (hS.unwanted rfl rfl rfl rfl) rfl fun a hS => st_skip hS (hS.unwanted rfl rfl rfl rfl) rfl fun a hS => st_v hS rfl rfl (run_pick_f hS rfl rfl) fun a hS => st_v hS rfl rfl (run_assign hS rfl) fun a hS => wl_nil ?_
        refine wpIn_ret ?_
        repeat (first | refine q_ret ?_ | refine q_block_ret ?_)
        refine hS.done (res1 (fn := Try.f75) (r1 := .tmp 6) rfl (rv_tmp hS rfl)) ?_
        refine vb ?_; simp [liesT, hc1, hc2, hc3]
    · skip
      try simp only [decide_eq_true_eq, decide_eq_false_iff_not, Bool.not_eq_true', Bool.not_eq_false', bne_iff_ne, beq_iff_eq, bne_eq_false_iff_eq, beq_eq_false_iff_ne, ne_eq, Int.not_le, Int.not_lt, ge_iff_le, gt_iff_lt] at hc2
      refine st_skip hS (hS.unwanted rfl rfl rfl rfl) rfl fun a hS => st_skip hS (hS.unwanted rfl rfl rfl rfl) rfl fun a hS => st_skip hS (hS.unwanted rfl rfl rfl rfl) rfl fun a hS => st_skip hS (hS.unwanted rfl rfl rfl rfl) rfl fun a hS => st_v hS rfl rfl (run_pick_f hS rfl rfl) fun a hS => st_v hS rfl rfl (run_move hS rfl) fun a hS => st_skip hS (hS.unwanted rfl rfl rfl rfl) rfl fun a hS => st_skip hS (hS.unwanted rfl rfl rfl rfl) rfl fun a hS => st_skip hS (hS.unwanted rfl rfl rfl rfl) rfl fun a hS => st_skip hS (hS.unwanted rfl rfl rfl rfl) rfl fun a hS => st_v hS rfl rfl (run_pick_f hS rfl rfl) fun a hS => st_v hS rfl rfl (run_assign hS rfl) fun a hS => wl_nil ?_
      refine wpIn_ret ?_
      repeat (first | refine q_ret ?_ | refine q_block_ret ?_)
      refine hS.done (res1 (fn := Try.f75) (r1 := .tmp 6) rfl (rv_tmp hS rfl)) ?_
      refine vb ?_; simp [liesT, hc1, hc2]
  · skip
    try simp only [decide_eq_true_eq, decide_eq_false_iff_not, Bool.not_eq_true', Bool.not_eq_false', bne_iff_ne, beq_iff_eq, bne_eq_false_iff_eq, beq_eq_false_iff_ne, ne_eq, Int.not_le, Int.not_lt, ge_iff_le, gt_iff_lt] at hc1
    refine st_skip hS (hS.unwanted rfl rfl rfl rfl) rfl fun a hS => st_skip hS (hS.unwanted rfl rfl rfl rfl) rfl fun a hS => st_v hS rfl rfl (run_pick_f hS rfl rfl) fun a hS => st_v hS rfl rfl (run_move hS rfl) fun a hS => st_skip hS (hS.unwanted rfl rfl rfl rfl) rfl fun a hS => st_skip hS (hS.unwanted rfl rfl rfl rfl) rfl fun a hS => st_skip hS (hS.unwanted rfl rfl rfl rfl) rfl fun a hS => st_skip hS (hS.unwanted rfl rfl rfl rfl) rfl fun a hS => st_v hS rfl rfl (run_pick_f hS rfl rfl) fun a hS => st_v hS rfl rfl (run_move hS rfl) fun a hS => st_skip hS (hS.unwanted rfl rfl rfl rfl) rfl fun a hS => st_skip hS (hS.unwanted rfl rfl rfl rfl) rfl fun a hS => st_skip hS (hS.unwanted rfl rfl rfl rfl) rfl fun a hS => st_skip hS (hS.unwanted rfl rfl rfl rfl) rfl fun a hS => st_v hS rfl rfl (run_pick_f hS rfl rfl) fun a hS => st_v hS rfl rfl (run_assign hS rfl) fun a hS => wl_nil ?_
    refine wpIn_ret ?_
    repeat (first | refine q_ret ?_ | refine q_block_ret ?_)
    refine hS.done (res1 (fn := Try.f75) (r1 := .tmp 6) rfl (rv_tmp hS rfl)) ?_
    refine vb ?_; simp [liesT, hc1]


set_option maxHeartbeats 2000000 in
set_option maxRecDepth 100000 in
theorem ref02_at  {n : Int} {w : World}   : Ret Try.prog 94 [.int .i64 n] w (fun v _ => v = .agg (spanC (one n)).toArray) := by
  refine ret_start (n := 6) Try.func94 rfl rfl rfl (fun a hS => ?_)
  refine wpIn_seq ?_
  refine wpIn_region_lit ?_
  refine st_alloc_agg Try.zeroValue34 hS rfl rfl fun W a b0 hS => wl_nil ?_
  refine wpIn_seq ?_
  refine wpIn_region_lit ?_
  refine st_v hS rfl rfl (run_move hS rfl) fun a hS => st_v hS rfl rfl (run_move hS rfl) fun a hS => st_v hS rfl rfl (run_build (pv := [(0, .int .i64 _), (1, .int .i64 _)]) (fun W => bd34_0_1 _ _ W) hS rfl) fun a hS => st_store (i := 0) Try.sizeOf34 hS rfl rfl rfl rfl rfl rfl rfl rfl rfl fun W a hS => wl_nil ?_
  refine wpIn_ret ?_
  repeat (first | refine q_ret ?_ | refine q_block_ret ?_)
  refine hS.done (res1 (fn := Try.f94) (r1 := .cell 2 34) rfl (rv_agg (i := 0) Try.isAgg34 Try.sizeOf34 hS rfl rfl rfl)) ?_
  rfl


set_option maxHeartbeats 2000000 in
set_option maxRecDepth 100000 in
theorem ref02_up  {n : Int} {d : Int} {w : World}  (hn : 0 ≤ n ∧ n ≤ 4000000000000000000) (hd : 1 ≤ d ∧ d ≤ 4000000000000000000) : Ret Try.prog 95 [.int .i64 n, .int .i64 d] w (fun v _ => v = .int .i64 ((n + d - 1) / d)) := by
  refine ret_start (n := 11) Try.func95 rfl rfl rfl (fun a hS => ?_)
  refine wpIn_seq ?_
  refine wpIn_region_lit ?_
  refine st_v hS rfl rfl (run_assign hS rfl) fun a hS => wl_nil ?_
  refine wpIn_seq ?_
  refine wpIn_region_lit ?_
  refine st_v hS rfl rfl (run_move hS rfl) fun a hS => st_v hS rfl rfl (run_move hS rfl) fun a hS => st_v hS rfl rfl (run_add (t := n + d) hS rfl rfl (rfl) (by omega) (by omega)) fun a hS => st_v hS rfl rfl (run_sub (t := (n + d) - 1) hS rfl rfl (rfl) (by omega) (by omega)) fun a hS => st_v hS rfl rfl (run_move hS rfl) fun a hS => st_v hS rfl rfl (run_div (t := ((n + d - 1) / d)) hS rfl rfl (by omega) (by exact Int.tdiv_eq_ediv_of_nonneg (by omega)) (by have := Int.ediv_le_self (a := n + d - 1) d (by omega); have := Int.ediv_nonneg (a := n + d - 1) (b := d) (by omega) (by omega); omega)) fun a hS => st_v hS rfl rfl (run_assign hS rfl) fun a hS => wl_nil ?_
  refine wpIn_ret ?_
  repeat (first | refine q_ret ?_ | refine q_block_ret ?_)
  refine hS.done (res1 (fn := Try.f95) (r1 := .tmp 4) rfl (rv_tmp hS rfl)) ?_
  rfl


set_option maxHeartbeats 2000000 in
set_option maxRecDepth 100000 in
theorem ref02_bound  (Vt : TV) (t : Tab) (p : Span) (q : Span) {w : World} {Ft : Nat → Prop} (ht : TabR Ft w Vt t) (hok : tabOk t = true) (hp : p.ok = true) (hq : q.ok = true) (hl : liesT t p q = true) : Ret Try.prog 85 [.agg (tabC Vt t).toArray, .agg (spanC p).toArray, .agg (spanC q).toArray] w (fun v _ => v = .agg (spanC (bnd t p q)).toArray) := by
  refine ret_start (n := 17) Try.func85 rfl rfl rfl (fun a hS => ?_)
  have Ht : ∀ W, Below w.heap.size w W → TabR Ft W Vt t := fun W hb => ht.move (keep_of hb)
  have hmtx := ht.1.len
  have hmty := ht.2.1.len
  have hmtv := ht.2.2.len
  refine wpIn_seq ?_
  refine wpIn_region_lit ?_
  refine st_box_agg hS rfl rfl rfl fun W a b0 hS => st_box_agg hS rfl rfl rfl fun W a b1 hS => st_box_agg hS rfl rfl rfl fun W a b2 hS => st_alloc_agg Try.zeroValue34 hS rfl rfl fun W a b3 hS => wl_nil ?_
  refine wpIn_seq ?_
  refine wpIn_region_lit ?_
  refine st_v hS rfl rfl (run_load_all (i := 3) Try.isAgg25 Try.sizeOf25 hS rfl rfl rfl) fun a hS => st_v hS rfl rfl (run_load_all (i := 2) Try.isAgg34 Try.sizeOf34 hS rfl rfl rfl) fun a hS => st_v hS rfl rfl (run_load_all (i := 1) Try.isAgg34 Try.sizeOf34 hS rfl rfl rfl) fun a hS => st_call (ref01_Bound Vt t p q (Ht _ hS.below)) Try.call124 hS rfl rfl rfl fun v W a hR hB hlt hS => ?_
  subst hR
  refine st_v hS rfl rfl (run_move hS rfl) fun a hS => st_v hS rfl rfl (run_extract hS rfl rfl) fun a hS => st_v hS rfl rfl (run_extract hS rfl rfl) fun a hS => st_alloc_agg Try.zeroValue34 hS rfl rfl fun W a b4 hS => st_store (i := 0) Try.sizeOf34 hS rfl rfl rfl rfl rfl rfl rfl rfl rfl fun W a hS => st_v hS rfl rfl (run_assign hS rfl) fun a hS => wl_nil ?_
  refine wpIn_seq ?_
  refine wpIn_region_lit ?_
  refine st_v hS rfl rfl (run_load_all (i := 0) Try.isAgg34 Try.sizeOf34 hS rfl rfl rfl) fun a hS => st_store (i := 1) Try.sizeOf34 hS rfl rfl rfl rfl rfl rfl rfl rfl rfl fun W a hS => wl_nil ?_
  refine wpIn_ret ?_
  repeat (first | refine q_ret ?_ | refine q_block_ret ?_)
  refine hS.done (res1 (fn := Try.f85) (r1 := .cell 6 34) rfl (rv_agg (i := 1) Try.isAgg34 Try.sizeOf34 hS rfl rfl rfl)) ?_
  simp only [hok, hp, hq, hl, Bool.and_self, if_true]; rfl


set_option maxHeartbeats 2000000 in
set_option maxRecDepth 100000 in
theorem ref02_needs  (Vr : RV) (r : Rot) (A : Air) (p : Span) {w : World} {Fr : Nat → Prop} (hr : RotR Fr w Vr r) (hrok : rotOk r = true) (haok : airOk A = true) (hon : onNeeds r A p = true) : Ret Try.prog 81 [.agg (rotC Vr r).toArray, .agg (airC A).toArray, .agg (spanC p).toArray] w (fun v _ => v = .agg (spanC (needsOf r A p)).toArray) := by
  refine ret_start (n := 35) Try.func81 rfl rfl rfl (fun a hS => ?_)
  have Hr : ∀ W, Below w.heap.size w W → RotR Fr W Vr r := fun W hb => hr.move (keep_of hb)
  have hRp := rot_p hrok
  have hA := (airOk_iff A).1 haok
  have hn := hon
  simp only [onNeeds, Bool.and_eq_true] at hn
  have hin := needs_in hrok haok hon
  have p1 := prod_in hin.1.1 hin.1.2.1 hin.2.1 hin.2.2.1
  have p2 := prod_in hin.1.2.2.1 hin.1.2.2.2 hin.2.2.2.1 hin.2.2.2.2
  refine wpIn_seq ?_
  refine wpIn_region_lit ?_
  refine st_box_agg hS rfl rfl rfl fun W a b0 hS => st_box_agg hS rfl rfl rfl fun W a b1 hS => st_box_agg hS rfl rfl rfl fun W a b2 hS => st_alloc_agg Try.zeroValue34 hS rfl rfl fun W a b3 hS => wl_nil ?_
  refine wpIn_seq ?_
  have hlt0 := fun B hB => hS.lt (b := B) hB
  refine st_mix (k := 15) (by kernel_rfl) (by kernel_rfl) hS rfl rfl ?_
  refine mx_v (fun a W hS hB => run_fieldAddr fa27_0 hS rfl) <| mx_v (fun a W hS hB => run_load_agg (i := 3) (vs := [_, _, _]) Try.isAgg25 Try.sizeOf25 hS rfl rfl rfl ⟨rfl, rfl, rfl, trivial⟩) <| mx_v (fun a W hS hB => run_fieldAddr fa36_0 hS rfl) <| mx_v (fun a W hS hB => run_load_agg (i := 2) (vs := [_, _]) Try.isAgg34 Try.sizeOf34 hS rfl rfl rfl ⟨rfl, rfl, trivial⟩) <| mx_v (fun a W hS hB => run_fieldAddr fa36_1 hS rfl) <| mx_v (fun a W hS hB => run_load_agg (i := 2) (vs := [_, _]) Try.isAgg34 Try.sizeOf34 hS rfl rfl rfl ⟨rfl, rfl, trivial⟩) <| mx_call Try.call85 rfl (fun a W hS hB => ref02_bound Vr.hover r.hover A.weight A.temp ((fun W hC => (Hr W hC).hover) _ hS.below) (by exact hRp.hover.1) (by exact hA.1) (by exact hA.2.1) (by exact hn.2.1)) <| mx_v (fun a W hS hB => run_fieldAddr fa27_1 hS rfl) <| mx_v (fun a W hS hB => run_load_agg (i := 3) (vs := [_, _, _]) Try.isAgg25 Try.sizeOf25 hS rfl rfl rfl ⟨rfl, rfl, rfl, trivial⟩) <| mx_v (fun a W hS hB => run_load_all (i := 1) Try.isAgg34 Try.sizeOf34 hS rfl rfl rfl) <| mx_v (fun a W hS hB => run_fieldAddr fa36_3 hS rfl) <| mx_v (fun a W hS hB => run_load_agg (i := 2) (vs := [_, _]) Try.isAgg34 Try.sizeOf34 hS rfl rfl rfl ⟨rfl, rfl, trivial⟩) <| mx_call Try.call85 rfl (fun a W hS hB => ref02_bound Vr.ground r.ground p A.wind ((fun W hC => (Hr W hC).ground) _ hS.below) (by exact hRp.ground.1) (by exact hn.1) (by exact hA.2.2.2) (by exact hn.2.2)) <| mx_alloc_agg Try.zeroValue34 <| mx_alloc_agg Try.zeroValue34 <| ?_
  refine mx_end fun a W bs us hS hB hL => ?_
  dsimp only [kall, ball, List.cons_append, List.nil_append] at hS
  generalize bs 1 = b4 at hS
  generalize bs 0 = b5 at hS
  refine st_store (i := 1) Try.sizeOf34 hS rfl rfl rfl rfl rfl rfl rfl rfl rfl fun W a hS => st_store (i := 0) Try.sizeOf34 hS rfl rfl rfl rfl rfl rfl rfl rfl rfl fun W a hS => wl_nil ?_
  refine wpIn_seq ?_
  have hlt0 := fun B hB => hS.lt (b := B) hB
  refine st_mix (k := 13) (by kernel_rfl) (by kernel_rfl) hS rfl rfl ?_
  refine mx_v (fun a W hS hB => run_fieldAddr fa34_0 hS rfl) <| mx_v (fun a W hS hB => run_load_one (i := 1) Try.isAgg3 hS rfl rfl rfl) <| mx_v (fun a W hS hB => run_fieldAddr fa34_0 hS rfl) <| mx_v (fun a W hS hB => run_load_one (i := 0) Try.isAgg3 hS rfl rfl rfl) <| mx_v (fun a W hS hB => run_mul (t := (((bnd r.hover A.weight A.temp)).lo) * (((bnd r.ground p A.wind)).lo)) hS rfl rfl (rfl) (by omega)) <| mx_v (fun a W hS hB => run_div (t := ((bnd r.hover A.weight A.temp).lo * (bnd r.ground p A.wind).lo / 100)) hS rfl rfl (by omega) (by exact Int.tdiv_eq_ediv_of_nonneg p1.1) (by omega)) <| mx_v (fun a W hS hB => run_fieldAddr fa34_1 hS rfl) <| mx_v (fun a W hS hB => run_load_one (i := 1) Try.isAgg3 hS rfl rfl rfl) <| mx_v (fun a W hS hB => run_fieldAddr fa34_1 hS rfl) <| mx_v (fun a W hS hB => run_load_one (i := 0) Try.isAgg3 hS rfl rfl rfl) <| mx_v (fun a W hS hB => run_mul (t := (((bnd r.hover A.weight A.temp)).hi) * (((bnd r.ground p A.wind)).hi)) hS rfl rfl (rfl) (by omega)) <| mx_call Try.call95 rfl (fun a W hS hB => ref02_up (by omega) (by omega)) <| mx_v (fun a W hS hB => run_build (pv := [(0, .int .i64 _), (1, .int .i64 _)]) (fun W => bd34_0_1 _ _ W) hS rfl) <| ?_
  refine mx_end fun a W bs us hS hB hL => ?_
  dsimp only [kall, ball, List.cons_append, List.nil_append] at hS
  refine st_store (i := 2) Try.sizeOf34 hS rfl rfl rfl rfl rfl rfl rfl rfl rfl fun W a hS => wl_nil ?_
  have hS := hS.sub (κ' := [(0, _), (1, _), (2, _), (3, _), (4, _), (5, _), (6, _), (7, _), (8, _), (34, _)]) (Sub.cons rfl (Sub.cons rfl (Sub.cons rfl (Sub.cons rfl (Sub.cons rfl (Sub.cons rfl (Sub.cons rfl (Sub.cons rfl (Sub.cons rfl (Sub.cons rfl Sub.nil))))))))))
  refine wpIn_ret ?_
  repeat (first | refine q_ret ?_ | refine q_block_ret ?_)
  refine hS.done (res1 (fn := Try.f81) (r1 := .cell 6 34) rfl (rv_agg (i := 2) Try.isAgg34 Try.sizeOf34 hS rfl rfl rfl)) ?_
  exact t1s (p := ⟨(bnd r.hover A.weight A.temp).lo * (bnd r.ground p A.wind).lo / 100, ((bnd r.hover A.weight A.temp).hi * (bnd r.ground p A.wind).hi + 100 - 1) / 100⟩) (by simp only [needsOf, Span.mk.injEq]; exact ⟨trivial, by omega⟩)


set_option maxHeartbeats 2000000 in
set_option maxRecDepth 100000 in
theorem ref02_Needs  (Vr : RV) (r : Rot) (A : Air) (p : Span) {w : World} {Fr : Nat → Prop} (hr : RotR Fr w Vr r)  : Ret Try.prog 31 [.agg (rotC Vr r).toArray, .agg (airC A).toArray, .agg (spanC p).toArray] w (fun v _ => v = .tuple #[.agg (spanC (if errC r A (onNeeds r A p) = 0 then needsOf r A p else ⟨0, 0⟩)).toArray, .int .i64 (errC r A (onNeeds r A p))]) := by
  refine ret_start (n := 38) Try.func31 rfl rfl rfl (fun a hS => ?_)
  have Hr : ∀ W, Below w.heap.size w W → RotR Fr W Vr r := fun W hb => hr.move (keep_of hb)
  refine wpIn_seq ?_
  refine wpIn_region_lit ?_
  refine st_box_agg hS rfl rfl rfl fun W a b0 hS => st_box_agg hS rfl rfl rfl fun W a b1 hS => st_box_agg hS rfl rfl rfl fun W a b2 hS => st_alloc_agg Try.zeroValue34 hS rfl rfl fun W a b3 hS => st_v hS rfl rfl (run_assign hS rfl) fun a hS => wl_nil ?_
  refine wpIn_seq ?_
  refine wpIn_region_lit ?_
  refine st_v hS rfl rfl (run_load_all (i := 3) Try.isAgg27 Try.sizeOf27 hS rfl rfl rfl) fun a hS => st_v hS rfl rfl (run_load_all (i := 2) Try.isAgg36 Try.sizeOf36 hS rfl rfl rfl) fun a hS => st_call (ref02_CheckAir Vr r A (Hr _ hS.below)) Try.call24 hS rfl rfl rfl fun v W a hR hB hlt hS => ?_
  subst hR
  refine st_v hS rfl rfl (run_assign hS rfl) fun a hS => wl_nil ?_
  refine wpIn_seq ?_
  refine wpIn_seq ?_
  refine wpIn_region_lit ?_
  refine st_v hS rfl rfl (run_move hS rfl) fun a hS => st_v hS rfl rfl (run_bin hS rfl rfl rfl) fun a hS => wl_nil ?_
  refine st_cond hS rfl (fun hc1 => ?_) (fun hc1 => ?_)
  · skip
    try simp only [decide_eq_true_eq, decide_eq_false_iff_not, Bool.not_eq_true', Bool.not_eq_false', bne_iff_ne, beq_iff_eq, bne_eq_false_iff_eq, beq_eq_false_iff_ne, ne_eq, Int.not_le, Int.not_lt, ge_iff_le, gt_iff_lt] at hc1
    refine wpIn_seq ?_
    refine wpIn_region_lit ?_
    refine st_v hS rfl rfl (run_build (pv := []) (fun W => bd34_ W) hS rfl) fun a hS => st_v hS rfl rfl (run_move hS rfl) fun a hS => st_store (i := 0) Try.sizeOf34 hS rfl rfl rfl rfl rfl rfl rfl rfl rfl fun W a hS => st_v hS rfl rfl (run_assign hS rfl) fun a hS => wl_nil ?_
    refine wpIn_ret ?_
    repeat (first | refine q_ret ?_ | refine q_block_ret ?_)
    refine hS.done (res2 (fn := Try.f31) (r1 := .cell 6 34) (r2 := .tmp 7) rfl (rv_agg (i := 0) Try.isAgg34 Try.sizeOf34 hS rfl rfl rfl) (rv_tmp hS rfl)) ?_
    have hE : errC r A (onNeeds r A p) = errC r A true := errC_t hc1
    exact t2s (p := ⟨0, 0⟩) (by rw [hE, if_neg hc1]) hE.symm
  · skip
    try simp only [decide_eq_true_eq, decide_eq_false_iff_not, Bool.not_eq_true', Bool.not_eq_false', bne_iff_ne, beq_iff_eq, bne_eq_false_iff_eq, beq_eq_false_iff_ne, ne_eq, Int.not_le, Int.not_lt, ge_iff_le, gt_iff_lt] at hc1
    obtain ⟨hrok, haok, _⟩ := errC_ok hc1
    obtain ⟨hA1, hA2, hA3, hA4⟩ := (airOk_iff A).1 haok
    have hRp := rot_p hrok
    refine wpIn_skip ?_
    refine wpIn_seq ?_
    refine wpIn_seq ?_
    refine wpIn_region_lit ?_
    refine st_v hS rfl rfl (run_fieldAddr fa27_0 hS rfl) fun a hS => st_v hS rfl rfl (run_load_agg (i := 3) (vs := [_, _, _]) Try.isAgg25 Try.sizeOf25 hS rfl rfl rfl ⟨rfl, rfl, rfl, trivial⟩) fun a hS => st_v hS rfl rfl (run_fieldAddr fa36_0 hS rfl) fun a hS => st_v hS rfl rfl (run_load_agg (i := 2) (vs := [_, _]) Try.isAgg34 Try.sizeOf34 hS rfl rfl rfl ⟨rfl, rfl, trivial⟩) fun a hS => st_v hS rfl rfl (run_fieldAddr fa36_1 hS rfl) fun a hS => st_v hS rfl rfl (run_load_agg (i := 2) (vs := [_, _]) Try.isAgg34 Try.sizeOf34 hS rfl rfl rfl ⟨rfl, rfl, trivial⟩) fun a hS => st_call (ref02_lies Vr.hover r.hover A.weight A.temp ((fun W hC => (Hr W hC).hover) _ hS.below) (by exact hRp.hover.1)) Try.call75 hS rfl rfl rfl fun v W a hR hB hlt hS => ?_
    subst hR
    refine st_v hS rfl rfl (run_not hS rfl) fun a hS => st_v hS rfl rfl (run_move hS rfl) fun a hS => ?_
    refine st_split (d := 24) hS rfl (fun hc2 hS => ?_) (fun hc2 hS => ?_)
    · skip
      try simp only [decide_eq_true_eq, decide_eq_false_iff_not, Bool.not_eq_true', Bool.not_eq_false', bne_iff_ne, beq_iff_eq, bne_eq_false_iff_eq, beq_eq_false_iff_ne, ne_eq, Int.not_le, Int.not_lt, ge_iff_le, gt_iff_lt] at hc2
      refine st_skip hS (hS.unwanted rfl rfl rfl rfl) rfl fun a hS => st_skip hS (hS.unwanted rfl rfl rfl rfl) rfl fun a hS => st_skip hS (hS.unwanted rfl rfl rfl rfl) rfl fun a hS => st_skip hS (hS.unwanted rfl rfl rfl rfl) rfl fun a hS => st_skip hS (hS.unwanted rfl rfl rfl rfl) rfl fun a hS => st_skip hS (hS.unwanted rfl rfl rfl rfl) rfl fun a hS => st_skip hS (hS.unwanted rfl rfl rfl rfl) rfl fun a hS => st_v hS rfl rfl (run_pick_t hS rfl rfl) fun a hS => wl_nil ?_
      refine st_cond_t hS rfl ?_
      refine wpIn_seq ?_
      refine wpIn_region_lit ?_
      refine st_v hS rfl rfl (run_build (pv := []) (fun W => bd34_ W) hS rfl) fun a hS => st_store (i := 0) Try.sizeOf34 hS rfl rfl rfl rfl rfl rfl rfl rfl rfl fun W a hS => st_v hS rfl rfl (run_assign hS rfl) fun a hS => wl_nil ?_
      refine wpIn_ret ?_
      repeat (first | refine q_ret ?_ | refine q_block_ret ?_)
      refine hS.done (res2 (fn := Try.f31) (r1 := .cell 6 34) (r2 := .tmp 7) rfl (rv_agg (i := 0) Try.isAgg34 Try.sizeOf34 hS rfl rfl rfl) (rv_tmp hS rfl)) ?_
      have hf : onNeeds r A p = false := by
        revert hc2
        unfold onNeeds
        cases p.ok <;> cases liesT r.hover A.weight A.temp <;> cases liesT r.ground p A.wind <;> simp [hA1, hA2, hA3, hA4]
      have hE : errC r A (onNeeds r A p) = 1 := errC_tf hrok haok hf
      exact t2s (p := ⟨0, 0⟩) (by rw [hE]; rfl) hE.symm
    · skip
      try simp only [decide_eq_true_eq, decide_eq_false_iff_not, Bool.not_eq_true', Bool.not_eq_false', bne_iff_ne, beq_iff_eq, bne_eq_false_iff_eq, beq_eq_false_iff_ne, ne_eq, Int.not_le, Int.not_lt, ge_iff_le, gt_iff_lt] at hc2
      refine st_v hS (hS.wanted rfl rfl rfl) rfl (run_fieldAddr fa27_1 hS rfl) fun a hS => st_v hS (hS.wanted rfl rfl rfl) rfl (run_load_agg (i := 3) (vs := [_, _, _]) Try.isAgg25 Try.sizeOf25 hS rfl rfl rfl ⟨rfl, rfl, rfl, trivial⟩) fun a hS => st_v hS (hS.wanted rfl rfl rfl) rfl (run_load_all (i := 1) Try.isAgg34 Try.sizeOf34 hS rfl rfl rfl) fun a hS => st_v hS (hS.wanted rfl rfl rfl) rfl (run_fieldAddr fa36_3 hS rfl) fun a hS => st_v hS (hS.wanted rfl rfl rfl) rfl (run_load_agg (i := 2) (vs := [_, _]) Try.isAgg34 Try.sizeOf34 hS rfl rfl rfl ⟨rfl, rfl, trivial⟩) fun a hS => st_call (ref02_lies Vr.ground r.ground p A.wind ((fun W hC => (Hr W hC).ground) _ hS.below) (by exact hRp.ground.1)) Try.call75 hS (hS.wanted rfl rfl rfl) rfl rfl fun v W a hR hB hlt hS => ?_
      subst hR
      refine st_v hS (hS.wanted rfl rfl rfl) rfl (run_not hS rfl) fun a hS => st_v hS rfl rfl (run_pick_f hS rfl rfl) fun a hS => wl_nil ?_
      refine st_cond hS rfl (fun hc3 => ?_) (fun hc3 => ?_)
      · skip
        try simp only [decide_eq_true_eq, decide_eq_false_iff_not, Bool.not_eq_true', Bool.not_eq_false', bne_iff_ne, beq_iff_eq, bne_eq_false_iff_eq, beq_eq_false_iff_ne, ne_eq, Int.not_le, Int.not_lt, ge_iff_le, gt_iff_lt] at hc3
        refine wpIn_seq ?_
        refine wpIn_region_lit ?_
        refine st_v hS rfl rfl (run_build (pv := []) (fun W => bd34_ W) hS rfl) fun a hS => st_store (i := 0) Try.sizeOf34 hS rfl rfl rfl rfl rfl rfl rfl rfl rfl fun W a hS => st_v hS rfl rfl (run_assign hS rfl) fun a hS => wl_nil ?_
        refine wpIn_ret ?_
        repeat (first | refine q_ret ?_ | refine q_block_ret ?_)
        refine hS.done (res2 (fn := Try.f31) (r1 := .cell 6 34) (r2 := .tmp 7) rfl (rv_agg (i := 0) Try.isAgg34 Try.sizeOf34 hS rfl rfl rfl) (rv_tmp hS rfl)) ?_
        have hf : onNeeds r A p = false := by
          revert hc3
          unfold onNeeds
          cases p.ok <;> cases liesT r.hover A.weight A.temp <;> cases liesT r.ground p A.wind <;> simp [hA1, hA2, hA3, hA4]
        have hE : errC r A (onNeeds r A p) = 1 := errC_tf hrok haok hf
        exact t2s (p := ⟨0, 0⟩) (by rw [hE]; rfl) hE.symm
      · skip
        try simp only [decide_eq_true_eq, decide_eq_false_iff_not, Bool.not_eq_true', Bool.not_eq_false', bne_iff_ne, beq_iff_eq, bne_eq_false_iff_eq, beq_eq_false_iff_ne, ne_eq, Int.not_le, Int.not_lt, ge_iff_le, gt_iff_lt] at hc3
        have ht : onNeeds r A p = true := by
          revert hc2 hc3
          unfold onNeeds
          cases p.ok <;> cases liesT r.hover A.weight A.temp <;> cases liesT r.ground p A.wind <;> simp [hA1, hA2, hA3, hA4]
        refine wpIn_skip ?_
        refine wpIn_seq ?_
        refine wpIn_region_lit ?_
        refine st_v hS rfl rfl (run_load_all (i := 3) Try.isAgg27 Try.sizeOf27 hS rfl rfl rfl) fun a hS => st_v hS rfl rfl (run_load_all (i := 2) Try.isAgg36 Try.sizeOf36 hS rfl rfl rfl) fun a hS => st_v hS rfl rfl (run_load_all (i := 1) Try.isAgg34 Try.sizeOf34 hS rfl rfl rfl) fun a hS => st_call (ref02_needs Vr r A p (Hr _ hS.below) (by assumption) (by assumption) (by assumption)) Try.call81 hS rfl rfl rfl fun v W a hR hB hlt hS => ?_
        subst hR
        refine st_store (i := 0) Try.sizeOf34 hS rfl rfl rfl rfl rfl rfl rfl rfl rfl fun W a hS => st_v hS rfl rfl (run_assign hS rfl) fun a hS => wl_nil ?_
        have hS := hS.sub (κ' := [(0, _), (1, _), (2, _), (3, _), (4, _), (5, _), (6, _), (7, _), (8, _)]) (Sub.cons rfl (Sub.cons rfl (Sub.cons rfl (Sub.cons rfl (Sub.cons rfl (Sub.cons rfl (Sub.cons rfl (Sub.cons rfl (Sub.cons rfl Sub.nil)))))))))
        refine wpIn_ret ?_
        repeat (first | refine q_ret ?_ | refine q_block_ret ?_)
        refine hS.done (res2 (fn := Try.f31) (r1 := .cell 6 34) (r2 := .tmp 7) rfl (rv_agg (i := 0) Try.isAgg34 Try.sizeOf34 hS rfl rfl rfl) (rv_tmp hS rfl)) ?_
        have hE : errC r A (onNeeds r A p) = 0 := errC_tt hrok haok ht
        exact t2s (p := needsOf r A p) (by rw [hE]; rfl) hE.symm


set_option maxHeartbeats 2000000 in
set_option maxRecDepth 100000 in
theorem ref02_Has  (Vr : RV) (r : Rot) (A : Air) {w : World} {Fr : Nat → Prop} (hr : RotR Fr w Vr r)  : Ret Try.prog 33 [.agg (rotC Vr r).toArray, .agg (airC A).toArray] w (fun v _ => v = .tuple #[.agg (spanC (if errC r A (onHas r A) = 0 then hasOf r A else ⟨0, 0⟩)).toArray, .int .i64 (errC r A (onHas r A))]) := by
  refine ret_start (n := 30) Try.func33 rfl rfl rfl (fun a hS => ?_)
  have Hr : ∀ W, Below w.heap.size w W → RotR Fr W Vr r := fun W hb => hr.move (keep_of hb)
  refine wpIn_seq ?_
  refine wpIn_region_lit ?_
  refine st_box_agg hS rfl rfl rfl fun W a b0 hS => st_box_agg hS rfl rfl rfl fun W a b1 hS => st_alloc_agg Try.zeroValue34 hS rfl rfl fun W a b2 hS => st_v hS rfl rfl (run_assign hS rfl) fun a hS => wl_nil ?_
  refine wpIn_seq ?_
  refine wpIn_region_lit ?_
  refine st_v hS rfl rfl (run_load_all (i := 2) Try.isAgg27 Try.sizeOf27 hS rfl rfl rfl) fun a hS => st_v hS rfl rfl (run_load_all (i := 1) Try.isAgg36 Try.sizeOf36 hS rfl rfl rfl) fun a hS => st_call (ref02_CheckAir Vr r A (Hr _ hS.below)) Try.call24 hS rfl rfl rfl fun v W a hR hB hlt hS => ?_
  subst hR
  refine st_v hS rfl rfl (run_assign hS rfl) fun a hS => wl_nil ?_
  refine wpIn_seq ?_
  refine wpIn_seq ?_
  refine wpIn_region_lit ?_
  refine st_v hS rfl rfl (run_move hS rfl) fun a hS => st_v hS rfl rfl (run_bin hS rfl rfl rfl) fun a hS => wl_nil ?_
  refine st_cond hS rfl (fun hc1 => ?_) (fun hc1 => ?_)
  · skip
    try simp only [decide_eq_true_eq, decide_eq_false_iff_not, Bool.not_eq_true', Bool.not_eq_false', bne_iff_ne, beq_iff_eq, bne_eq_false_iff_eq, beq_eq_false_iff_ne, ne_eq, Int.not_le, Int.not_lt, ge_iff_le, gt_iff_lt] at hc1
    refine wpIn_seq ?_
    refine wpIn_region_lit ?_
    refine st_v hS rfl rfl (run_build (pv := []) (fun W => bd34_ W) hS rfl) fun a hS => st_v hS rfl rfl (run_move hS rfl) fun a hS => st_store (i := 0) Try.sizeOf34 hS rfl rfl rfl rfl rfl rfl rfl rfl rfl fun W a hS => st_v hS rfl rfl (run_assign hS rfl) fun a hS => wl_nil ?_
    refine wpIn_ret ?_
    repeat (first | refine q_ret ?_ | refine q_block_ret ?_)
    refine hS.done (res2 (fn := Try.f33) (r1 := .cell 4 34) (r2 := .tmp 5) rfl (rv_agg (i := 0) Try.isAgg34 Try.sizeOf34 hS rfl rfl rfl) (rv_tmp hS rfl)) ?_
    have hE : errC r A (onHas r A) = errC r A true := errC_t hc1
    exact t2s (p := ⟨0, 0⟩) (by rw [hE, if_neg hc1]) hE.symm
  · skip
    try simp only [decide_eq_true_eq, decide_eq_false_iff_not, Bool.not_eq_true', Bool.not_eq_false', bne_iff_ne, beq_iff_eq, bne_eq_false_iff_eq, beq_eq_false_iff_ne, ne_eq, Int.not_le, Int.not_lt, ge_iff_le, gt_iff_lt] at hc1
    obtain ⟨hrok, haok, _⟩ := errC_ok hc1
    obtain ⟨hA1, hA2, hA3, hA4⟩ := (airOk_iff A).1 haok
    have hRp := rot_p hrok
    refine wpIn_skip ?_
    refine wpIn_seq ?_
    refine wpIn_seq ?_
    refine wpIn_region_lit ?_
    refine st_v hS rfl rfl (run_fieldAddr fa27_3 hS rfl) fun a hS => st_v hS rfl rfl (run_load_agg (i := 2) (vs := [_, _, _]) Try.isAgg25 Try.sizeOf25 hS rfl rfl rfl ⟨rfl, rfl, rfl, trivial⟩) fun a hS => st_v hS rfl rfl (run_fieldAddr fa36_1 hS rfl) fun a hS => st_v hS rfl rfl (run_load_agg (i := 1) (vs := [_, _]) Try.isAgg34 Try.sizeOf34 hS rfl rfl rfl ⟨rfl, rfl, trivial⟩) fun a hS => st_v hS rfl rfl (run_fieldAddr fa36_2 hS rfl) fun a hS => st_v hS rfl rfl (run_load_agg (i := 1) (vs := [_, _]) Try.isAgg34 Try.sizeOf34 hS rfl rfl rfl ⟨rfl, rfl, trivial⟩) fun a hS => st_call (ref02_lies Vr.power r.power A.temp A.height ((fun W hC => (Hr W hC).power) _ hS.below) (by exact hRp.power.1)) Try.call75 hS rfl rfl rfl fun v W a hR hB hlt hS => ?_
    subst hR
    refine st_v hS rfl rfl (run_not hS rfl) fun a hS => wl_nil ?_
    refine st_cond hS rfl (fun hc2 => ?_) (fun hc2 => ?_)
    · skip
      try simp only [decide_eq_true_eq, decide_eq_false_iff_not, Bool.not_eq_true', Bool.not_eq_false', bne_iff_ne, beq_iff_eq, bne_eq_false_iff_eq, beq_eq_false_iff_ne, ne_eq, Int.not_le, Int.not_lt, ge_iff_le, gt_iff_lt] at hc2
      refine wpIn_seq ?_
      refine wpIn_region_lit ?_
      refine st_v hS rfl rfl (run_build (pv := []) (fun W => bd34_ W) hS rfl) fun a hS => st_store (i := 0) Try.sizeOf34 hS rfl rfl rfl rfl rfl rfl rfl rfl rfl fun W a hS => st_v hS rfl rfl (run_assign hS rfl) fun a hS => wl_nil ?_
      refine wpIn_ret ?_
      repeat (first | refine q_ret ?_ | refine q_block_ret ?_)
      refine hS.done (res2 (fn := Try.f33) (r1 := .cell 4 34) (r2 := .tmp 5) rfl (rv_agg (i := 0) Try.isAgg34 Try.sizeOf34 hS rfl rfl rfl) (rv_tmp hS rfl)) ?_
      have hf : onHas r A = false := by
        revert hc2
        unfold onHas
        cases liesT r.power A.temp A.height <;> simp [hA1, hA2, hA3, hA4]
      have hE : errC r A (onHas r A) = 1 := errC_tf hrok haok hf
      exact t2s (p := ⟨0, 0⟩) (by rw [hE]; rfl) hE.symm
    · skip
      try simp only [decide_eq_true_eq, decide_eq_false_iff_not, Bool.not_eq_true', Bool.not_eq_false', bne_iff_ne, beq_iff_eq, bne_eq_false_iff_eq, beq_eq_false_iff_ne, ne_eq, Int.not_le, Int.not_lt, ge_iff_le, gt_iff_lt] at hc2
      have ht : onHas r A = true := by
        revert hc2
        unfold onHas
        cases liesT r.power A.temp A.height <;> simp [hA1, hA2, hA3, hA4]
      refine wpIn_skip ?_
      refine wpIn_seq ?_
      refine wpIn_region_lit ?_
      refine st_v hS rfl rfl (run_fieldAddr fa27_3 hS rfl) fun a hS => st_v hS rfl rfl (run_load_agg (i := 2) (vs := [_, _, _]) Try.isAgg25 Try.sizeOf25 hS rfl rfl rfl ⟨rfl, rfl, rfl, trivial⟩) fun a hS => st_v hS rfl rfl (run_fieldAddr fa36_1 hS rfl) fun a hS => st_v hS rfl rfl (run_load_agg (i := 1) (vs := [_, _]) Try.isAgg34 Try.sizeOf34 hS rfl rfl rfl ⟨rfl, rfl, trivial⟩) fun a hS => st_v hS rfl rfl (run_fieldAddr fa36_2 hS rfl) fun a hS => st_v hS rfl rfl (run_load_agg (i := 1) (vs := [_, _]) Try.isAgg34 Try.sizeOf34 hS rfl rfl rfl ⟨rfl, rfl, trivial⟩) fun a hS => st_call (ref02_bound Vr.power r.power A.temp A.height ((fun W hC => (Hr W hC).power) _ hS.below) (by exact hRp.power.1) (by exact hA2) (by exact hA3) (by exact ht)) Try.call85 hS rfl rfl rfl fun v W a hR hB hlt hS => ?_
      subst hR
      refine st_store (i := 0) Try.sizeOf34 hS rfl rfl rfl rfl rfl rfl rfl rfl rfl fun W a hS => st_v hS rfl rfl (run_assign hS rfl) fun a hS => wl_nil ?_
      refine wpIn_ret ?_
      repeat (first | refine q_ret ?_ | refine q_block_ret ?_)
      refine hS.done (res2 (fn := Try.f33) (r1 := .cell 4 34) (r2 := .tmp 5) rfl (rv_agg (i := 0) Try.isAgg34 Try.sizeOf34 hS rfl rfl rfl) (rv_tmp hS rfl)) ?_
      have hE : errC r A (onHas r A) = 0 := errC_tt hrok haok ht
      exact t2s (p := hasOf r A) (by rw [hE]; rfl) hE.symm


set_option maxHeartbeats 2000000 in
set_option maxRecDepth 100000 in
theorem ref02_Margin  (Vr : RV) (r : Rot) (A : Air) (p : Span) {w : World} {Fr : Nat → Prop} (hr : RotR Fr w Vr r)  : Ret Try.prog 34 [.agg (rotC Vr r).toArray, .agg (airC A).toArray, .agg (spanC p).toArray] w (fun v _ => v = .tuple #[.int .i64 (if errC r A (onMargin r A p) = 0 then marginOf r A p else 0), .int .i64 (errC r A (onMargin r A p))]) := by
  refine ret_start (n := 35) Try.func34 rfl rfl rfl (fun a hS => ?_)
  have Hr : ∀ W, Below w.heap.size w W → RotR Fr W Vr r := fun W hb => hr.move (keep_of hb)
  refine wpIn_seq ?_
  refine wpIn_region_lit ?_
  refine st_box_agg hS rfl rfl rfl fun W a b0 hS => st_box_agg hS rfl rfl rfl fun W a b1 hS => st_box_agg hS rfl rfl rfl fun W a b2 hS => st_v hS rfl rfl (run_assign hS rfl) fun a hS => st_v hS rfl rfl (run_assign hS rfl) fun a hS => wl_nil ?_
  refine wpIn_seq ?_
  refine wpIn_region_lit ?_
  refine st_v hS rfl rfl (run_load_all (i := 2) Try.isAgg27 Try.sizeOf27 hS rfl rfl rfl) fun a hS => st_v hS rfl rfl (run_load_all (i := 1) Try.isAgg36 Try.sizeOf36 hS rfl rfl rfl) fun a hS => st_v hS rfl rfl (run_load_all (i := 0) Try.isAgg34 Try.sizeOf34 hS rfl rfl rfl) fun a hS => st_call (ref02_Needs Vr r A p (Hr _ hS.below)) Try.call31 hS rfl rfl rfl fun v W a hR hB hlt hS => ?_
  subst hR
  refine st_v hS rfl rfl (run_move hS rfl) fun a hS => st_v hS rfl rfl (run_extract hS rfl rfl) fun a hS => st_v hS rfl rfl (run_extract hS rfl rfl) fun a hS => st_alloc_agg Try.zeroValue34 hS rfl rfl fun W a b3 hS => st_store (i := 0) Try.sizeOf34 hS rfl rfl rfl rfl rfl rfl rfl rfl rfl fun W a hS => st_v hS rfl rfl (run_assign hS rfl) fun a hS => wl_nil ?_
  refine wpIn_seq ?_
  refine wpIn_seq ?_
  refine wpIn_region_lit ?_
  refine st_v hS rfl rfl (run_move hS rfl) fun a hS => st_v hS rfl rfl (run_bin hS rfl rfl rfl) fun a hS => wl_nil ?_
  refine st_cond hS rfl (fun hc1 => ?_) (fun hc1 => ?_)
  · skip
    try simp only [decide_eq_true_eq, decide_eq_false_iff_not, Bool.not_eq_true', Bool.not_eq_false', bne_iff_ne, beq_iff_eq, bne_eq_false_iff_eq, beq_eq_false_iff_ne, ne_eq, Int.not_le, Int.not_lt, ge_iff_le, gt_iff_lt] at hc1
    refine wpIn_seq ?_
    refine wpIn_region_lit ?_
    refine st_v hS rfl rfl (run_move hS rfl) fun a hS => st_v hS rfl rfl (run_assign hS rfl) fun a hS => st_v hS rfl rfl (run_assign hS rfl) fun a hS => wl_nil ?_
    refine wpIn_ret ?_
    repeat (first | refine q_ret ?_ | refine q_block_ret ?_)
    refine hS.done (res2 (fn := Try.f34) (r1 := .tmp 6) (r2 := .tmp 7) rfl (rv_tmp hS rfl) (rv_tmp hS rfl)) ?_
    have hE : errC r A (onMargin r A p) = errC r A (onNeeds r A p) := errC_andN hc1
    exact t2i (p := 0) (by rw [hE, if_neg hc1]) hE.symm
  · skip
    try simp only [decide_eq_true_eq, decide_eq_false_iff_not, Bool.not_eq_true', Bool.not_eq_false', bne_iff_ne, beq_iff_eq, bne_eq_false_iff_eq, beq_eq_false_iff_ne, ne_eq, Int.not_le, Int.not_lt, ge_iff_le, gt_iff_lt] at hc1
    
    refine wpIn_skip ?_
    refine wpIn_seq ?_
    refine wpIn_region_lit ?_
    refine st_v hS rfl rfl (run_load_all (i := 3) Try.isAgg27 Try.sizeOf27 hS rfl rfl rfl) fun a hS => st_v hS rfl rfl (run_load_all (i := 2) Try.isAgg36 Try.sizeOf36 hS rfl rfl rfl) fun a hS => st_call (ref02_Has Vr r A (Hr _ hS.below)) Try.call33 hS rfl rfl rfl fun v W a hR hB hlt hS => ?_
    subst hR
    refine st_v hS rfl rfl (run_move hS rfl) fun a hS => st_v hS rfl rfl (run_extract hS rfl rfl) fun a hS => st_v hS rfl rfl (run_extract hS rfl rfl) fun a hS => st_alloc_agg Try.zeroValue34 hS rfl rfl fun W a b4 hS => st_store (i := 0) Try.sizeOf34 hS rfl rfl rfl rfl rfl rfl rfl rfl rfl fun W a hS => st_v hS rfl rfl (run_assign hS rfl) fun a hS => wl_nil ?_
    refine wpIn_seq ?_
    refine wpIn_seq ?_
    refine wpIn_region_lit ?_
    refine st_v hS rfl rfl (run_move hS rfl) fun a hS => st_v hS rfl rfl (run_bin hS rfl rfl rfl) fun a hS => wl_nil ?_
    refine st_cond hS rfl (fun hc2 => ?_) (fun hc2 => ?_)
    · skip
      try simp only [decide_eq_true_eq, decide_eq_false_iff_not, Bool.not_eq_true', Bool.not_eq_false', bne_iff_ne, beq_iff_eq, bne_eq_false_iff_eq, beq_eq_false_iff_ne, ne_eq, Int.not_le, Int.not_lt, ge_iff_le, gt_iff_lt] at hc2
      refine wpIn_seq ?_
      refine wpIn_region_lit ?_
      refine st_v hS rfl rfl (run_move hS rfl) fun a hS => st_v hS rfl rfl (run_assign hS rfl) fun a hS => st_v hS rfl rfl (run_assign hS rfl) fun a hS => wl_nil ?_
      refine wpIn_ret ?_
      repeat (first | refine q_ret ?_ | refine q_block_ret ?_)
      refine hS.done (res2 (fn := Try.f34) (r1 := .tmp 6) (r2 := .tmp 7) rfl (rv_tmp hS rfl) (rv_tmp hS rfl)) ?_
      have hE : errC r A (onMargin r A p) = errC r A (onHas r A) := errC_and hc1
      exact t2i (p := 0) (by rw [hE, if_neg hc2]) hE.symm
    · skip
      try simp only [decide_eq_true_eq, decide_eq_false_iff_not, Bool.not_eq_true', Bool.not_eq_false', bne_iff_ne, beq_iff_eq, bne_eq_false_iff_eq, beq_eq_false_iff_ne, ne_eq, Int.not_le, Int.not_lt, ge_iff_le, gt_iff_lt] at hc2
      obtain ⟨hrok, haok, hnn⟩ := errC_ok hc1
      obtain ⟨_, _, hnh⟩ := errC_ok hc2
      have h1 := hasOf_in hrok haok hnh; have h2 := needsOf_in hrok haok hnn
      have e1 : (if errC r A (onNeeds r A p) = 0 then needsOf r A p else ⟨0, 0⟩) = needsOf r A p := if_pos hc1
      have e2 : (if errC r A (onHas r A) = 0 then hasOf r A else ⟨0, 0⟩) = hasOf r A := if_pos hc2
      rw [e1, e2] at hS
      refine wpIn_skip ?_
      refine wpIn_seq ?_
      refine wpIn_region_lit ?_
      refine st_v hS rfl rfl (run_fieldAddr fa34_0 hS rfl) fun a hS => st_v hS rfl rfl (run_load_one (i := 0) Try.isAgg3 hS rfl rfl rfl) fun a hS => st_v hS rfl rfl (run_fieldAddr fa34_1 hS rfl) fun a hS => st_v hS rfl rfl (run_load_one (i := 1) Try.isAgg3 hS rfl rfl rfl) fun a hS => st_v hS rfl rfl (run_sub (t := (marginOf r A p)) hS rfl rfl (by rfl) (by unfold marginOf; omega) (by unfold marginOf; omega)) fun a hS => st_v hS rfl rfl (run_assign hS rfl) fun a hS => st_v hS rfl rfl (run_assign hS rfl) fun a hS => wl_nil ?_
      refine wpIn_ret ?_
      repeat (first | refine q_ret ?_ | refine q_block_ret ?_)
      refine hS.done (res2 (fn := Try.f34) (r1 := .tmp 6) (r2 := .tmp 7) rfl (rv_tmp hS rfl) (rv_tmp hS rfl)) ?_
      have hE : errC r A (onMargin r A p) = 0 := (errC_and hc1).trans hc2
      exact t2i (p := marginOf r A p) (by rw [hE]; rfl) hE.symm


set_option maxHeartbeats 2000000 in
set_option maxRecDepth 100000 in
theorem ref02_Up  (A : Air) {wt : Int} {w : World}   : Ret Try.prog 23 [.agg (airC A).toArray, .int .i64 wt] w (fun v _ => v = .agg (airC (upTo_ A wt)).toArray) := by
  refine ret_start (n := 9) Try.func23 rfl rfl rfl (fun a hS => ?_)
  refine wpIn_seq ?_
  refine wpIn_region_lit ?_
  refine st_box_agg hS rfl rfl rfl fun W a b0 hS => st_alloc_agg Try.zeroValue36 hS rfl rfl fun W a b1 hS => wl_nil ?_
  refine wpIn_seq ?_
  refine wpIn_region_lit ?_
  refine st_v hS rfl rfl (run_move hS rfl) fun a hS => st_v hS rfl rfl (run_fieldAddr fa36_0 hS rfl) fun a hS => st_v hS rfl rfl (run_fieldAddr fa34_1 hS rfl) fun a hS => st_store (cs' := [.int .i64 A.weight.lo, .int .i64 wt, .int .i64 A.temp.lo, .int .i64 A.temp.hi, .int .i64 A.height.lo, .int .i64 A.height.hi, .int .i64 A.wind.lo, .int .i64 A.wind.hi]) (i := 1) Try.sizeOf3 hS rfl rfl rfl rfl rfl rfl rfl rfl rfl fun W a hS => wl_nil ?_
  refine wpIn_seq ?_
  refine wpIn_region_lit ?_
  refine st_v hS rfl rfl (run_load_all (i := 1) Try.isAgg36 Try.sizeOf36 hS rfl rfl rfl) fun a hS => st_store (cs' := [.int .i64 A.weight.lo, .int .i64 wt, .int .i64 A.temp.lo, .int .i64 A.temp.hi, .int .i64 A.height.lo, .int .i64 A.height.hi, .int .i64 A.wind.lo, .int .i64 A.wind.hi]) (i := 0) Try.sizeOf36 hS rfl rfl rfl rfl rfl rfl rfl rfl rfl fun W a hS => wl_nil ?_
  refine wpIn_ret ?_
  repeat (first | refine q_ret ?_ | refine q_block_ret ?_)
  refine hS.done (res1 (fn := Try.f23) (r1 := .cell 4 36) rfl (rv_agg (i := 0) Try.isAgg36 Try.sizeOf36 hS rfl rfl rfl)) ?_
  rfl


theorem ref02_MarginOk (Vr : RV) (r : Rot) (A : Air) (p : Span) {w : World} {Fr : Nat → Prop} (hr : RotR Fr w Vr r) (h : errC r A (onMargin r A p) = 0) : Ret Try.prog 34 [.agg (rotC Vr r).toArray, .agg (airC A).toArray, .agg (spanC p).toArray] w (fun v _ => v = .tuple #[.int .i64 (marginOf r A p), .int .i64 0]) :=
  (ref02_Margin Vr r A p hr).mono fun v W' _ hv => by rw [hv, h]; rfl
theorem half_in {low high : Int} (h : low < high) : low < Int.tdiv (low + high + 1) 2 ∧ Int.tdiv (low + high + 1) 2 ≤ high := by
  rcases Int.le_total 0 (low + high + 1) with h0 | h0
  · rw [Int.tdiv_eq_ediv_of_nonneg h0]; omega
  · have e : Int.tdiv (low + high + 1) 2 = -(Int.tdiv (-(low + high + 1)) 2) := by rw [Int.neg_tdiv, Int.neg_neg]
    rw [e, Int.tdiv_eq_ediv_of_nonneg (by omega)]; omega


set_option maxHeartbeats 4000000 in
set_option maxRecDepth 100000 in
theorem ref02_Heaviest  (Vr : RV) (r : Rot) (A : Air) (p : Span) {rs : Int} {w : World} {Fr : Nat → Prop} (hr : RotR Fr w Vr r)  : Ret Try.prog 21 [.agg (rotC Vr r).toArray, .agg (airC A).toArray, .agg (spanC p).toArray, .int .i64 rs] w (fun v _ => v = .tuple #[.int .i64 (if heavyE r A p rs = 0 then heavyOf r A p rs else 0), .int .i64 (heavyE r A p rs)]) := by
  refine ret_start (n := 74) Try.func21 rfl rfl rfl (fun a hS => ?_)
  have Hr : ∀ W, Below w.heap.size w W → RotR Fr W Vr r := fun W hb => hr.move (keep_of hb)
  refine wpIn_seq ?_
  refine wpIn_region_lit ?_
  refine st_box_agg hS rfl rfl rfl fun W a b0 hS => st_box_agg hS rfl rfl rfl fun W a b1 hS => st_box_agg hS rfl rfl rfl fun W a b2 hS => st_v hS rfl rfl (run_assign hS rfl) fun a hS => st_v hS rfl rfl (run_assign hS rfl) fun a hS => wl_nil ?_
  refine wpIn_seq ?_
  refine wpIn_region_lit ?_
  refine st_v hS rfl rfl (run_load_all (i := 2) Try.isAgg27 Try.sizeOf27 hS rfl rfl rfl) fun a hS => st_v hS rfl rfl (run_load_all (i := 1) Try.isAgg36 Try.sizeOf36 hS rfl rfl rfl) fun a hS => st_v hS rfl rfl (run_load_all (i := 0) Try.isAgg34 Try.sizeOf34 hS rfl rfl rfl) fun a hS => st_call (ref02_Margin Vr r A p (Hr _ hS.below)) Try.call34 hS rfl rfl rfl fun v W a hR hB hlt hS => ?_
  subst hR
  refine st_v hS rfl rfl (run_move hS rfl) fun a hS => st_v hS rfl rfl (run_extract hS rfl rfl) fun a hS => st_v hS rfl rfl (run_extract hS rfl rfl) fun a hS => st_v hS rfl rfl (run_assign hS rfl) fun a hS => st_v hS rfl rfl (run_assign hS rfl) fun a hS => wl_nil ?_
  refine wpIn_seq ?_
  refine wpIn_seq ?_
  refine wpIn_region_lit ?_
  refine st_v hS rfl rfl (run_move hS rfl) fun a hS => st_v hS rfl rfl (run_bin hS rfl rfl rfl) fun a hS => wl_nil ?_
  refine st_cond hS rfl (fun hc1 => ?_) (fun hc1 => ?_)
  · skip
    try simp only [decide_eq_true_eq, decide_eq_false_iff_not, Bool.not_eq_true', Bool.not_eq_false', bne_iff_ne, beq_iff_eq, bne_eq_false_iff_eq, beq_eq_false_iff_ne, ne_eq, Int.not_le, Int.not_lt, ge_iff_le, gt_iff_lt] at hc1
    refine wpIn_seq ?_
    refine wpIn_region_lit ?_
    refine st_v hS rfl rfl (run_move hS rfl) fun a hS => st_v hS rfl rfl (run_assign hS rfl) fun a hS => st_v hS rfl rfl (run_assign hS rfl) fun a hS => wl_nil ?_
    refine wpIn_ret ?_
    repeat (first | refine q_ret ?_ | refine q_block_ret ?_)
    refine hS.done (res2 (fn := Try.f21) (r1 := .tmp 8) (r2 := .tmp 9) rfl (rv_tmp hS rfl) (rv_tmp hS rfl)) ?_
    have h : heavyE r A p rs = errC r A (onMargin r A p) := by unfold heavyE; rw [if_neg hc1]
    exact t2i (p := 0) (by rw [h, if_neg hc1]) h.symm
  · skip
    try simp only [decide_eq_true_eq, decide_eq_false_iff_not, Bool.not_eq_true', Bool.not_eq_false', bne_iff_ne, beq_iff_eq, bne_eq_false_iff_eq, beq_eq_false_iff_ne, ne_eq, Int.not_le, Int.not_lt, ge_iff_le, gt_iff_lt] at hc1
    obtain ⟨hrok, haok, hon⟩ := errC_ok hc1
    have hA := (airOk_iff A).1 haok
    have hw := (Span.ok_iff _).1 hA.1
    have hE0 : ∀ w, A.weight.lo ≤ w → w ≤ A.weight.hi → errC r (upTo_ A w) (onMargin r (upTo_ A w) p) = 0 := fun w h1 h2 => errC_of hrok (upTo_ok haok h1 h2) (onMargin_upTo hon h2)
    refine wpIn_skip ?_
    refine wpIn_seq ?_
    refine st_draw (by kernel_rfl) (by kernel_rfl) hS ?_
    refine qt_v hS rfl rfl (fun W hB hS => run_fieldAddr fa36_0 hS rfl) fun a hS => qt_v hS rfl rfl (fun W hB hS => run_fieldAddr fa34_0 hS rfl) fun a hS => qt_v hS rfl rfl (fun W hB hS => run_load_one (i := 1) Try.isAgg3 hS rfl rfl rfl) fun a hS => qt_v hS rfl rfl (fun W hB hS => run_fieldAddr fa36_0 hS rfl) fun a hS => qt_v hS rfl rfl (fun W hB hS => run_fieldAddr fa34_1 hS rfl) fun a hS => qt_v hS rfl rfl (fun W hB hS => run_load_one (i := 1) Try.isAgg3 hS rfl rfl rfl) fun a hS => qt_v hS rfl rfl (fun W hB hS => run_assign hS rfl) fun a hS => qt_v hS rfl rfl (fun W hB hS => run_assign hS rfl) fun a hS => qt_nil hS fun W hS => ?_
    refine wpIn_seq ?_
    refine st_draw (by kernel_rfl) (by kernel_rfl) hS ?_
    refine qt_v hS rfl rfl (fun W hB hS => run_load_all (i := 2) Try.isAgg27 Try.sizeOf27 hS rfl rfl rfl) fun a hS => qt_v hS rfl rfl (fun W hB hS => run_load_all (i := 1) Try.isAgg36 Try.sizeOf36 hS rfl rfl rfl) fun a hS => qt_v hS rfl rfl (fun W hB hS => run_move hS rfl) fun a hS => qt_call hS rfl rfl Try.call23 rfl (fun W hB hS => ref02_Up A) fun a hS => qt_v hS rfl rfl (fun W hB hS => run_load_all (i := 0) Try.isAgg34 Try.sizeOf34 hS rfl rfl rfl) fun a hS => qt_call hS rfl rfl Try.call34 rfl (fun W hB hS => ref02_MarginOk Vr r (upTo_ A A.weight.lo) p (Hr _ hS.below) (hE0 A.weight.lo (by omega) (by omega))) fun a hS => qt_v hS rfl rfl (fun W hB hS => run_move hS rfl) fun a hS => qt_v hS rfl rfl (fun W hB hS => run_extract hS rfl rfl) fun a hS => qt_v hS rfl rfl (fun W hB hS => run_extract hS rfl rfl) fun a hS => qt_v hS rfl rfl (fun W hB hS => run_assign hS rfl) fun a hS => qt_v hS rfl rfl (fun W hB hS => run_assign hS rfl) fun a hS => qt_nil hS fun W hS => ?_
    have hS := hS.sub (κ' := [(0, _), (1, _), (2, _), (3, _), (4, _), (5, _), (6, _), (8, _), (9, _), (11, _), (12, _), (13, _), (14, _), (15, _)]) (Sub.cons rfl (Sub.cons rfl (Sub.cons rfl (Sub.cons rfl (Sub.cons rfl (Sub.cons rfl (Sub.cons rfl (Sub.cons rfl (Sub.cons rfl (Sub.cons rfl (Sub.cons rfl (Sub.cons rfl (Sub.cons rfl (Sub.cons rfl Sub.nil))))))))))))))
    refine wpIn_seq ?_
    refine wpIn_seq ?_
    refine wpIn_region_lit ?_
    refine st_v hS rfl rfl (run_move hS rfl) fun a hS => st_v hS rfl rfl (run_move hS rfl) fun a hS => st_v hS rfl rfl (run_bin hS rfl rfl rfl) fun a hS => wl_nil ?_
    refine st_cond hS rfl (fun hc2 => ?_) (fun hc2 => ?_)
    · skip
      try simp only [decide_eq_true_eq, decide_eq_false_iff_not, Bool.not_eq_true', Bool.not_eq_false', bne_iff_ne, beq_iff_eq, bne_eq_false_iff_eq, beq_eq_false_iff_ne, ne_eq, Int.not_le, Int.not_lt, ge_iff_le, gt_iff_lt] at hc2
      refine wpIn_seq ?_
      refine wpIn_region_lit ?_
      refine st_v hS rfl rfl (run_assign hS rfl) fun a hS => st_v hS rfl rfl (run_assign hS rfl) fun a hS => wl_nil ?_
      refine wpIn_ret ?_
      repeat (first | refine q_ret ?_ | refine q_block_ret ?_)
      refine hS.done (res2 (fn := Try.f21) (r1 := .tmp 8) (r2 := .tmp 9) rfl (rv_tmp hS rfl) (rv_tmp hS rfl)) ?_
      have ht := heavy_eq (r := r) (p := p) (v := rs) (n := A.weight.lo - 1) ⟨by omega, by omega, fun w h1 h2 => by simpa using (by omega : rs ≤ marginOf r (upTo_ A w) p), fun w h1 h2 => by simpa using (by have := margin_mono hrok haok hon (w := A.weight.lo) (w' := w) (Int.le_refl _) (by omega) h2; omega : ¬ rs ≤ marginOf r (upTo_ A w) p)⟩ hA.1
      have h : heavyE r A p rs = 3 := by unfold heavyE; rw [if_pos hc1, ht, if_pos (by omega)]
      rw [h]; rfl
    · skip
      try simp only [decide_eq_true_eq, decide_eq_false_iff_not, Bool.not_eq_true', Bool.not_eq_false', bne_iff_ne, beq_iff_eq, bne_eq_false_iff_eq, beq_eq_false_iff_ne, ne_eq, Int.not_le, Int.not_lt, ge_iff_le, gt_iff_lt] at hc2
      
      refine wpIn_skip ?_
      refine wpIn_seq ?_
      refine wpIn_block ?_
      refine st_loop2 (α := Int × Int) (fun z => [(12, .int .i64 z.1), (13, .int .i64 z.2)]) [(0, _), (1, _), (2, _), (3, _), (4, _), (5, _), (6, _), (8, _), (9, _), (11, _)] (fun l _ => l) (fun z => A.weight.lo ≤ z.1 ∧ z.1 ≤ z.2 ∧ z.2 ≤ A.weight.hi ∧ (∀ w, A.weight.lo ≤ w → w ≤ z.1 → rs ≤ marginOf r (upTo_ A w) p) ∧ (∀ w, z.2 < w → w ≤ A.weight.hi → ¬ rs ≤ marginOf r (upTo_ A w) p)) (fun z => (z.2 - z.1).toNat) (⟨A.weight.lo, A.weight.hi⟩) hS (Sub.cons rfl (Sub.cons rfl (Sub.cons rfl (Sub.cons rfl (Sub.cons rfl (Sub.cons rfl (Sub.cons rfl (Sub.cons rfl (Sub.cons rfl (Sub.cons rfl (Sub.cons rfl (Sub.cons rfl Sub.nil)))))))))))) rfl (⟨Int.le_refl _, hw.2.1, Int.le_refl _, fun w h1 h2 => by
        have e : w = A.weight.lo := by dsimp only at h2; omega
        rw [e]; omega, fun w h1 h2 => by dsimp only at h1; omega⟩) (fun z W a hφ hS => ?_)
      obtain ⟨low, high⟩ := z
      dsimp only [setB, List.cons_append, List.nil_append, List.take] at hS hφ
      obtain ⟨hl1, hlh, hh1, hyes, hno⟩ := hφ
      refine wpIn_seq ?_
      refine wpIn_seq ?_
      refine wpIn_region_lit ?_
      refine st_v hS rfl rfl (run_move hS rfl) fun a hS => st_v hS rfl rfl (run_move hS rfl) fun a hS => st_v hS rfl rfl (run_bin hS rfl rfl rfl) fun a hS => wl_nil ?_
      refine st_cond hS rfl (fun hc3 => ?_) (fun hc3 => ?_)
      · skip
        try simp only [decide_eq_true_eq, decide_eq_false_iff_not, Bool.not_eq_true', Bool.not_eq_false', bne_iff_ne, beq_iff_eq, bne_eq_false_iff_eq, beq_eq_false_iff_ne, ne_eq, Int.not_le, Int.not_lt, ge_iff_le, gt_iff_lt] at hc3
        have hmid := half_in (low := low) (high := high) (by omega)
        refine wpIn_skip ?_
        refine wpIn_block ?_
        refine wpIn_seq ?_
        refine wpIn_region_lit ?_
        refine st_v hS rfl rfl (run_move hS rfl) fun a hS => st_v hS rfl rfl (run_move hS rfl) fun a hS => st_v hS rfl rfl (run_add (t := low + high) hS rfl rfl (rfl) (by omega) (by omega)) fun a hS => st_v hS rfl rfl (run_add (t := (low + high) + 1) hS rfl rfl (rfl) (by omega) (by omega)) fun a hS => st_v hS rfl rfl (run_div (t := (Int.tdiv (low + high + 1) 2)) hS rfl rfl (by omega) (by rfl) (by omega)) fun a hS => st_v hS rfl rfl (run_assign hS rfl) fun a hS => wl_nil ?_
        refine wpIn_seq ?_
        refine wpIn_seq ?_
        refine wpIn_region_lit ?_
        refine st_v hS rfl rfl (run_move hS rfl) fun a hS => st_v hS rfl rfl (run_move hS rfl) fun a hS => st_v hS rfl rfl (run_bin hS rfl rfl rfl) fun a hS => wl_nil ?_
        refine st_cond hS rfl (fun hc4 => ?_) (fun hc4 => ?_)
        · skip
          try simp only [decide_eq_true_eq, decide_eq_false_iff_not, Bool.not_eq_true', Bool.not_eq_false', bne_iff_ne, beq_iff_eq, bne_eq_false_iff_eq, beq_eq_false_iff_ne, ne_eq, Int.not_le, Int.not_lt, ge_iff_le, gt_iff_lt] at hc4
          omega
        · skip
          try simp only [decide_eq_true_eq, decide_eq_false_iff_not, Bool.not_eq_true', Bool.not_eq_false', bne_iff_ne, beq_iff_eq, bne_eq_false_iff_eq, beq_eq_false_iff_ne, ne_eq, Int.not_le, Int.not_lt, ge_iff_le, gt_iff_lt] at hc4
          
          refine wpIn_skip ?_
          refine wpIn_seq ?_
          refine st_draw (by kernel_rfl) (by kernel_rfl) hS ?_
          refine qt_v hS rfl rfl (fun W hB hS => run_load_all (i := 2) Try.isAgg27 Try.sizeOf27 hS rfl rfl rfl) fun a hS => qt_v hS rfl rfl (fun W hB hS => run_load_all (i := 1) Try.isAgg36 Try.sizeOf36 hS rfl rfl rfl) fun a hS => qt_v hS rfl rfl (fun W hB hS => run_move hS rfl) fun a hS => qt_call hS rfl rfl Try.call23 rfl (fun W hB hS => ref02_Up A) fun a hS => qt_v hS rfl rfl (fun W hB hS => run_load_all (i := 0) Try.isAgg34 Try.sizeOf34 hS rfl rfl rfl) fun a hS => qt_call hS rfl rfl Try.call34 rfl (fun W hB hS => ref02_MarginOk Vr r (upTo_ A (Int.tdiv (low + high + 1) 2)) p (Hr _ hS.below) (hE0 (Int.tdiv (low + high + 1) 2) (by omega) (by omega))) fun a hS => qt_v hS rfl rfl (fun W hB hS => run_move hS rfl) fun a hS => qt_v hS rfl rfl (fun W hB hS => run_extract hS rfl rfl) fun a hS => qt_v hS rfl rfl (fun W hB hS => run_extract hS rfl rfl) fun a hS => qt_v hS rfl rfl (fun W hB hS => run_assign hS rfl) fun a hS => qt_nil hS fun W hS => ?_
          refine wpIn_seq ?_
          refine wpIn_region_lit ?_
          refine st_v hS rfl rfl (run_move hS rfl) fun a hS => st_v hS rfl rfl (run_move hS rfl) fun a hS => st_v hS rfl rfl (run_bin hS rfl rfl rfl) fun a hS => wl_nil ?_
          refine st_cond hS rfl (fun hc5 => ?_) (fun hc5 => ?_)
          · skip
            try simp only [decide_eq_true_eq, decide_eq_false_iff_not, Bool.not_eq_true', Bool.not_eq_false', bne_iff_ne, beq_iff_eq, bne_eq_false_iff_eq, beq_eq_false_iff_ne, ne_eq, Int.not_le, Int.not_lt, ge_iff_le, gt_iff_lt] at hc5
            refine wpIn_region_lit ?_
            refine st_v hS rfl rfl (run_move hS rfl) fun a hS => st_v hS rfl rfl (run_assign hS rfl) fun a hS => wl_nil ?_
            refine ⟨⟨(Int.tdiv (low + high + 1) 2), high⟩, ⟨⟨by dsimp only; omega, by dsimp only; omega, hh1, fun w h1 h2 => ?_, hno⟩, by dsimp only; omega⟩, (hS.sub (Sub.cons rfl (Sub.cons rfl (Sub.cons rfl (Sub.cons rfl (Sub.cons rfl (Sub.cons rfl (Sub.cons rfl (Sub.cons rfl (Sub.cons rfl (Sub.cons rfl (Sub.cons rfl (Sub.cons rfl Sub.nil)))))))))))))⟩
            have := margin_mono hrok haok hon (w := w) (w' := (Int.tdiv (low + high + 1) 2)) h1 h2 (by omega)
            omega
          · skip
            try simp only [decide_eq_true_eq, decide_eq_false_iff_not, Bool.not_eq_true', Bool.not_eq_false', bne_iff_ne, beq_iff_eq, bne_eq_false_iff_eq, beq_eq_false_iff_ne, ne_eq, Int.not_le, Int.not_lt, ge_iff_le, gt_iff_lt] at hc5
            refine wpIn_region_lit ?_
            refine st_v hS rfl rfl (run_move hS rfl) fun a hS => st_v hS rfl rfl (run_sub (t := ((Int.tdiv (low + high + 1) 2)) - 1) hS rfl rfl (rfl) (by omega) (by omega)) fun a hS => st_v hS rfl rfl (run_assign hS rfl) fun a hS => wl_nil ?_
            have hS := hS.sub (κ' := [(0, _), (1, _), (2, _), (3, _), (4, _), (5, _), (6, _), (8, _), (9, _), (11, _), (12, _), (13, _), (16, _), (14, _)]) (Sub.cons rfl (Sub.cons rfl (Sub.cons rfl (Sub.cons rfl (Sub.cons rfl (Sub.cons rfl (Sub.cons rfl (Sub.cons rfl (Sub.cons rfl (Sub.cons rfl (Sub.cons rfl (Sub.cons rfl (Sub.cons rfl (Sub.cons rfl Sub.nil))))))))))))))
            refine ⟨⟨low, (Int.tdiv (low + high + 1) 2) - 1⟩, ⟨⟨hl1, by dsimp only; omega, by dsimp only; omega, hyes, fun w h1 h2 => ?_⟩, by dsimp only; omega⟩, (hS.sub (Sub.cons rfl (Sub.cons rfl (Sub.cons rfl (Sub.cons rfl (Sub.cons rfl (Sub.cons rfl (Sub.cons rfl (Sub.cons rfl (Sub.cons rfl (Sub.cons rfl (Sub.cons rfl (Sub.cons rfl Sub.nil)))))))))))))⟩
            have := margin_mono hrok haok hon (w := (Int.tdiv (low + high + 1) 2)) (w' := w) (by omega) (by dsimp only at h1; omega) h2
            omega
      · skip
        try simp only [decide_eq_true_eq, decide_eq_false_iff_not, Bool.not_eq_true', Bool.not_eq_false', bne_iff_ne, beq_iff_eq, bne_eq_false_iff_eq, beq_eq_false_iff_ne, ne_eq, Int.not_le, Int.not_lt, ge_iff_le, gt_iff_lt] at hc3
        refine wpIn_exit ?_
        refine wpIn_seq ?_
        refine wpIn_region_lit ?_
        refine st_v hS rfl rfl (run_move hS rfl) fun a hS => st_v hS rfl rfl (run_assign hS rfl) fun a hS => st_v hS rfl rfl (run_assign hS rfl) fun a hS => wl_nil ?_
        refine wpIn_ret ?_
        repeat (first | refine q_ret ?_ | refine q_block_ret ?_)
        refine hS.done (res2 (fn := Try.f21) (r1 := .tmp 8) (r2 := .tmp 9) rfl (rv_tmp hS rfl) (rv_tmp hS rfl)) ?_
        have ht := heavy_eq (r := r) (p := p) (v := rs) (n := low) ⟨by omega, by omega, fun w h1 h2 => by simpa using (hyes w h1 h2 : rs ≤ marginOf r (upTo_ A w) p), fun w h1 h2 => by simpa using (hno w (by omega) h2 : ¬ rs ≤ marginOf r (upTo_ A w) p)⟩ hA.1
        have h : heavyE r A p rs = 0 := by unfold heavyE; rw [if_pos hc1, ht, if_neg (by omega)]
        rw [h, if_pos rfl, ht]

end Go.Proofs.Ytdnodlgebpnfoaa
