/- The statement RotorClear, walked. -/
import Derived.Test.YtdnodlgebpnfoaaLawDesc
namespace Go.Proofs.Ytdnodlgebpnfoaa
open Go Go.RowKit Go.Shelf Sw
set_option linter.unusedVariables false
set_option linter.unusedSimpArgs false

set_option maxHeartbeats 16000000 in
set_option maxRecDepth 100000 in
theorem law_RotorClear  (Vr : RV) (r : Rot) (A : Air) (sdr : SV) (dr : List Drop) {w : World} {Fr : Nat → Prop} (hr : RotR Fr w Vr r) {Fdr : Nat → Prop} (hdr : Sl kDrop Fdr w sdr dr)  : Ret Try.prog 13 [.agg (rotC Vr r).toArray, .agg (airC A).toArray, .slice sdr.a dr.length sdr.c] w (fun v _ => v = .bool true) := by
  refine ret_start (n := 192) Try.func13 rfl rfl rfl (fun a hS => ?_)
  have Hr : ∀ W, Below w.heap.size w W → RotR Fr W Vr r := fun W hb => hr.move (keep_of hb)
  have Hdr : ∀ W, Below w.heap.size w W → Sl kDrop Fdr W sdr dr := fun W hb => hdr.at_ hb
  have hmdr := hdr.len
  refine wpIn_seq ?_
  refine wpIn_region_lit ?_
  refine st_box_agg hS rfl rfl rfl fun W a b0 hS => st_box_agg hS rfl rfl rfl fun W a b1 hS => st_v hS rfl rfl (run_assign hS rfl) fun a hS => wl_nil ?_
  refine wpIn_seq ?_
  refine wpIn_seq ?_
  refine wpIn_region_lit ?_
  refine st_v hS rfl rfl (run_load_all (i := 1) Try.isAgg27 Try.sizeOf27 hS rfl rfl rfl) fun a hS => st_call (law02_Far Vr r (Hr _ hS.below)) Try.call15 hS rfl rfl rfl fun v W a hR hB hlt hS => ?_
  subst hR
  refine st_v hS rfl rfl (run_move hS rfl) fun a hS => ?_
  refine st_split (d := 31) hS rfl (fun hc1 hS => ?_) (fun hc1 hS => ?_)
  · skip
    try simp only [decide_eq_true_eq, decide_eq_false_iff_not, Bool.not_eq_true', Bool.not_eq_false', bne_iff_ne, beq_iff_eq, bne_eq_false_iff_eq, beq_eq_false_iff_ne, ne_eq, Int.not_le, Int.not_lt, ge_iff_le, gt_iff_lt] at hc1
    refine st_skip hS (hS.unwanted rfl rfl rfl rfl) rfl fun a hS => st_skip hS (hS.unwanted rfl rfl rfl rfl) rfl fun a hS => st_skip hS (hS.unwanted rfl rfl rfl rfl) rfl fun a hS => st_v hS rfl rfl (run_pick_t hS rfl rfl) fun a hS => st_v hS rfl rfl (run_move hS rfl) fun a hS => st_skip hS (hS.unwanted rfl rfl rfl rfl) rfl fun a hS => st_skip hS (hS.unwanted rfl rfl rfl rfl) rfl fun a hS => st_skip hS (hS.unwanted rfl rfl rfl rfl) rfl fun a hS => st_skip hS (hS.unwanted rfl rfl rfl rfl) rfl fun a hS => st_v hS rfl rfl (run_pick_t hS rfl rfl) fun a hS => wl_nil ?_
    refine st_cond_t hS rfl ?_
    refine wpIn_seq ?_
    refine wpIn_region_lit ?_
    refine st_call (law02_works) Try.call16 hS rfl rfl rfl fun v W a hR hB hlt hS => ?_
    subst hR
    refine st_v hS rfl rfl (run_assign hS rfl) fun a hS => wl_nil ?_
    refine wpIn_ret ?_
    repeat (first | refine q_ret ?_ | refine q_block_ret ?_)
    refine hS.done (res1 (fn := Try.f13) (r1 := .tmp 6) rfl (rv_tmp hS rfl)) ?_
    rfl
  · skip
    try simp only [decide_eq_true_eq, decide_eq_false_iff_not, Bool.not_eq_true', Bool.not_eq_false', bne_iff_ne, beq_iff_eq, bne_eq_false_iff_eq, beq_eq_false_iff_ne, ne_eq, Int.not_le, Int.not_lt, ge_iff_le, gt_iff_lt] at hc1
    
    refine st_v hS (hS.wanted rfl rfl rfl) rfl (run_move hS rfl) fun a hS => st_v hS (hS.wanted rfl rfl rfl) rfl (run_len_slice Try.underlying82 hS rfl) fun a hS => st_v hS (hS.wanted rfl rfl rfl) rfl (run_bin hS rfl rfl rfl) fun a hS => st_v hS rfl rfl (run_pick_f hS rfl rfl) fun a hS => st_v hS rfl rfl (run_move hS rfl) fun a hS => ?_
    refine st_split (d := 36) hS rfl (fun hc2 hS => ?_) (fun hc2 hS => ?_)
    · skip
      try simp only [decide_eq_true_eq, decide_eq_false_iff_not, Bool.not_eq_true', Bool.not_eq_false', bne_iff_ne, beq_iff_eq, bne_eq_false_iff_eq, beq_eq_false_iff_ne, ne_eq, Int.not_le, Int.not_lt, ge_iff_le, gt_iff_lt] at hc2
      refine st_skip hS (hS.unwanted rfl rfl rfl rfl) rfl fun a hS => st_skip hS (hS.unwanted rfl rfl rfl rfl) rfl fun a hS => st_skip hS (hS.unwanted rfl rfl rfl rfl) rfl fun a hS => st_skip hS (hS.unwanted rfl rfl rfl rfl) rfl fun a hS => st_v hS rfl rfl (run_pick_t hS rfl rfl) fun a hS => wl_nil ?_
      refine st_cond_t hS rfl ?_
      refine wpIn_seq ?_
      refine wpIn_region_lit ?_
      refine st_call (law02_works) Try.call16 hS rfl rfl rfl fun v W a hR hB hlt hS => ?_
      subst hR
      refine st_v hS rfl rfl (run_assign hS rfl) fun a hS => wl_nil ?_
      refine wpIn_ret ?_
      repeat (first | refine q_ret ?_ | refine q_block_ret ?_)
      refine hS.done (res1 (fn := Try.f13) (r1 := .tmp 6) rfl (rv_tmp hS rfl)) ?_
      rfl
    · skip
      try simp only [decide_eq_true_eq, decide_eq_false_iff_not, Bool.not_eq_true', Bool.not_eq_false', bne_iff_ne, beq_iff_eq, bne_eq_false_iff_eq, beq_eq_false_iff_ne, ne_eq, Int.not_le, Int.not_lt, ge_iff_le, gt_iff_lt] at hc2
      
      refine st_v hS (hS.wanted rfl rfl rfl) rfl (run_load_all (i := 1) Try.isAgg27 Try.sizeOf27 hS rfl rfl rfl) fun a hS => st_v hS (hS.wanted rfl rfl rfl) rfl (run_load_all (i := 0) Try.isAgg36 Try.sizeOf36 hS rfl rfl rfl) fun a hS => st_call (ref02_CheckAir Vr r A (Hr _ hS.below)) Try.call24 hS (hS.wanted rfl rfl rfl) rfl rfl fun v W a hR hB hlt hS => ?_
      subst hR
      refine st_v hS (hS.wanted rfl rfl rfl) rfl (run_bin hS rfl rfl rfl) fun a hS => st_v hS rfl rfl (run_pick_f hS rfl rfl) fun a hS => wl_nil ?_
      refine st_cond hS rfl (fun hc3 => ?_) (fun hc3 => ?_)
      · skip
        try simp only [decide_eq_true_eq, decide_eq_false_iff_not, Bool.not_eq_true', Bool.not_eq_false', bne_iff_ne, beq_iff_eq, bne_eq_false_iff_eq, beq_eq_false_iff_ne, ne_eq, Int.not_le, Int.not_lt, ge_iff_le, gt_iff_lt] at hc3
        refine wpIn_seq ?_
        refine wpIn_region_lit ?_
        refine st_call (law02_works) Try.call16 hS rfl rfl rfl fun v W a hR hB hlt hS => ?_
        subst hR
        refine st_v hS rfl rfl (run_assign hS rfl) fun a hS => wl_nil ?_
        refine wpIn_ret ?_
        repeat (first | refine q_ret ?_ | refine q_block_ret ?_)
        refine hS.done (res1 (fn := Try.f13) (r1 := .tmp 6) rfl (rv_tmp hS rfl)) ?_
        rfl
      · skip
        try simp only [decide_eq_true_eq, decide_eq_false_iff_not, Bool.not_eq_true', Bool.not_eq_false', bne_iff_ne, beq_iff_eq, bne_eq_false_iff_eq, beq_eq_false_iff_ne, ne_eq, Int.not_le, Int.not_lt, ge_iff_le, gt_iff_lt] at hc3
        
        refine wpIn_skip ?_
        refine wpIn_seq ?_
        refine wpIn_region_lit ?_
        refine st_v hS rfl rfl (run_load_all (i := 1) Try.isAgg27 Try.sizeOf27 hS rfl rfl rfl) fun a hS => ?_
        have hw0 := hS.below.size
        refine st_call (law02_own Vr r (Hr _ hS.below) (by exact farR_not hc1)) Try.call18 hS rfl rfl rfl fun v W a hR hB hlt hS => ?_
        
        obtain ⟨V0, rfl, hV0⟩ := hR
        have hS := hS.moreRot hw0 hlt hV0
        refine st_alloc_agg Try.zeroValue27 hS rfl rfl fun W a b2 hS => st_store (cs' := [.slice V0.hover.x.a r.hover.X.length V0.hover.x.c, .slice V0.hover.y.a r.hover.Y.length V0.hover.y.c, .slice V0.hover.v.a r.hover.V.length V0.hover.v.c, .slice V0.ground.x.a r.ground.X.length V0.ground.x.c, .slice V0.ground.y.a r.ground.Y.length V0.ground.y.c, .slice V0.ground.v.a r.ground.V.length V0.ground.v.c, .slice V0.level.x.a r.level.X.length V0.level.x.c, .slice V0.level.y.a r.level.Y.length V0.level.y.c, .slice V0.level.v.a r.level.V.length V0.level.v.c, .slice V0.power.x.a r.power.X.length V0.power.x.c, .slice V0.power.y.a r.power.Y.length V0.power.y.c, .slice V0.power.v.a r.power.V.length V0.power.v.c, .slice V0.never.x.a r.never.X.length V0.never.x.c, .slice V0.never.y.a r.never.Y.length V0.never.y.c, .slice V0.never.v.a r.never.V.length V0.never.v.c, .slice V0.low.x.a r.low.X.length V0.low.x.c, .slice V0.low.y.a r.low.Y.length V0.low.y.c, .slice V0.low.v.a r.low.V.length V0.low.v.c, .slice V0.high.x.a r.high.X.length V0.high.x.c, .slice V0.high.y.a r.high.Y.length V0.high.y.c, .slice V0.high.v.a r.high.V.length V0.high.v.c, .slice V0.glide.x.a r.glide.X.length V0.glide.x.c, .slice V0.glide.y.a r.glide.Y.length V0.glide.y.c, .slice V0.glide.v.a r.glide.V.length V0.glide.v.c, .int .i64 r.climb, .int .i64 r.burn]) (i := 0) Try.sizeOf27 hS rfl rfl rfl rfl rfl rfl rfl rfl rfl fun W a hS => wl_nil ?_
        refine wpIn_seq ?_
        have hS := hS.sub (κ' := [(0, _), (1, _), (2, _), (3, _), (4, _), (6, _), (7, _)]) (Sub.cons rfl (Sub.cons rfl (Sub.cons rfl (Sub.cons rfl (Sub.cons rfl (Sub.cons rfl (Sub.cons rfl Sub.nil)))))))
        refine st_cutN (fun b => [(9, .int .i64 (descP r A dr)), (10, .int .i64 (descE r A dr)), (8, .pointer (some ⟨b, 0, none⟩))]) (fun b => [⟨b, spanC (descV r A dr), 34⟩]) hS ?_ ?_
        · skip
          refine anyh_start (by kernel_rfl) [true, true, true] hS fun W hS => ?_
          refine anyh_take (i := 0) [true, true, true] hS (fun _ h => h) rfl rfl (by kernel_rfl) (by kernel_rfl) (by kernel_rfl) rfl rfl (fun W' hS => run_load_all (i := 0) Try.isAgg27 Try.sizeOf27 hS rfl rfl rfl) fun a hS => ?_
          refine anyh_take (i := 1) [true, true, true] hS (fun _ h => h) rfl rfl (by kernel_rfl) (by kernel_rfl) (by kernel_rfl) rfl rfl (fun W' hS => run_load_all (i := 1) Try.isAgg36 Try.sizeOf36 hS rfl rfl rfl) fun a hS => ?_
          refine anyh_take (i := 3) [true, true, true] hS (fun _ h => h) rfl rfl (by kernel_rfl) (by kernel_rfl) (by kernel_rfl) rfl rfl (fun W' hS => run_move hS rfl) fun a hS => ?_
          refine anyh_go (rs := [2, 10]) (by kernel_rfl) (by simp) ⟨⟨_, rfl, ?_⟩, ⟨_, rfl, ?_⟩, trivial⟩
          · skip
            refine st_buildSlice (pv := []) (fun W => bs82_0_ W) hS rfl rfl rfl fun W a b3 hS => wl_nil ?_
            refine anyh_next [false, true, true, true] hS (fun _ h => h) rfl ?_
            refine anyh_go (rs := [4, 10]) (by kernel_rfl) (by simp) ⟨⟨_, rfl, ?_⟩, ⟨_, rfl, ?_⟩, trivial⟩
            · skip
              refine st_app0 rfl (by decide) Try.underlying82 (AI.of ai88) Try.underlying82 drop_one (Hdr _ hS.below) (by first | omega | (simp; omega)) hS (i := 0) rfl rfl rfl rfl rfl fun v W a hR hB hlt hS => ?_
              
              obtain ⟨s1, rfl, hs1⟩ := hR
              have hS := hS.moreSl hlt hs1
              refine wl_nil ?_
              refine anyh_next [false, true, true, true] hS (fun _ h => h.1) rfl ?_
              refine anyh_go (rs := [5, 10]) (by kernel_rfl) (by simp) ⟨⟨_, rfl, ?_⟩, ⟨_, rfl, ?_⟩, trivial⟩
              · skip
                refine st_call (rotor_Descent V0 r A s1 dr ((fun _ h => h) _ hS.now.1.2) ((fun _ h => h) _ hS.now.2)) Try.call45 hS rfl rfl rfl fun v W a hR hB hlt hS => ?_
                subst hR
                refine wl_nil ?_
                refine anyh_next [false, true, true, true] hS (fun _ h => h.1) rfl ?_
                refine anyh_take (i := 6) [false, true, true, true] hS (fun _ h => h.1) rfl rfl (by kernel_rfl) (by kernel_rfl) (by kernel_rfl) rfl rfl (fun W' hS => run_move hS rfl) fun a hS => ?_
                refine anyh_take (i := 7) [false, true, true, true] hS (fun _ h => h.1) rfl rfl (by kernel_rfl) (by kernel_rfl) (by kernel_rfl) rfl rfl (fun W' hS => run_extract hS rfl rfl) fun a hS => ?_
                refine anyh_take (i := 8) [false, true, true, true] hS (fun _ h => h.1) rfl rfl (by kernel_rfl) (by kernel_rfl) (by kernel_rfl) rfl rfl (fun W' hS => run_extract hS rfl rfl) fun a hS => ?_
                refine anyh_take (i := 9) [false, true, true, true] hS (fun _ h => h.1) rfl rfl (by kernel_rfl) (by kernel_rfl) (by kernel_rfl) rfl rfl (fun W' hS => run_extract hS rfl rfl) fun a hS => ?_
                refine anyh_go (rs := [10]) (by kernel_rfl) (by simp) ⟨⟨_, rfl, ?_⟩, trivial⟩
                refine st_alloc_agg Try.zeroValue34 hS rfl rfl fun W a b4 hS => wl_nil ?_
                refine anyh_next [false, false, true, true, true] hS (fun _ h => h.1) rfl ?_
                refine anyh_go (rs := [11]) (by kernel_rfl) (by simp) ⟨⟨_, rfl, ?_⟩, trivial⟩
                refine st_store (i := 0) Try.sizeOf34 hS rfl rfl rfl rfl rfl rfl rfl rfl rfl fun W a hS => wl_nil ?_
                refine anyh_next [false, false, true, true, true] hS (fun _ h => h.1) rfl ?_
                refine anyh_take (i := 12) [false, false, true, true, true] hS (fun _ h => h.1) rfl rfl (by kernel_rfl) (by kernel_rfl) (by kernel_rfl) rfl rfl (fun W' hS => run_assign hS rfl) fun a hS => ?_
                refine anyh_take (i := 13) [false, false, true, true, true] hS (fun _ h => h.1) rfl rfl (by kernel_rfl) (by kernel_rfl) (by kernel_rfl) rfl rfl (fun W' hS => run_assign hS rfl) fun a hS => ?_
                refine anyh_done (by kernel_rfl) ?_ _
                refine cut_end ⟨b4, ?_⟩
                dsimp only [List.cons_append, List.nil_append]
                exact ((hS.sub (Sub.cons rfl (Sub.cons rfl (Sub.cons rfl (Sub.cons rfl (Sub.cons rfl (Sub.cons rfl (Sub.cons rfl (Sub.cons rfl (Sub.cons rfl (Sub.cons rfl Sub.nil))))))))))).drop (List.Sublist.cons_cons _ (List.Sublist.cons _ (List.Sublist.refl _)))).less (fun _ h => h.1)
              · skip
                refine st_alloc_agg Try.zeroValue34 hS rfl rfl fun W a b5 hS => wl_nil ?_
                refine anyh_next [false, false, true, true, true] hS (fun _ h => h.1) rfl ?_
                refine anyh_go (rs := [5]) (by kernel_rfl) (by simp) ⟨⟨_, rfl, ?_⟩, trivial⟩
                refine st_call (rotor_Descent V0 r A s1 dr ((fun _ h => h) _ hS.now.1.2) ((fun _ h => h) _ hS.now.2)) Try.call45 hS rfl rfl rfl fun v W a hR hB hlt hS => ?_
                subst hR
                refine wl_nil ?_
                refine anyh_next [false, false, true, true, true] hS (fun _ h => h.1) rfl ?_
                refine anyh_take (i := 6) [false, false, true, true, true] hS (fun _ h => h.1) rfl rfl (by kernel_rfl) (by kernel_rfl) (by kernel_rfl) rfl rfl (fun W' hS => run_move hS rfl) fun a hS => ?_
                refine anyh_take (i := 7) [false, false, true, true, true] hS (fun _ h => h.1) rfl rfl (by kernel_rfl) (by kernel_rfl) (by kernel_rfl) rfl rfl (fun W' hS => run_extract hS rfl rfl) fun a hS => ?_
                refine anyh_take (i := 8) [false, false, true, true, true] hS (fun _ h => h.1) rfl rfl (by kernel_rfl) (by kernel_rfl) (by kernel_rfl) rfl rfl (fun W' hS => run_extract hS rfl rfl) fun a hS => ?_
                refine anyh_take (i := 9) [false, false, true, true, true] hS (fun _ h => h.1) rfl rfl (by kernel_rfl) (by kernel_rfl) (by kernel_rfl) rfl rfl (fun W' hS => run_extract hS rfl rfl) fun a hS => ?_
                refine anyh_go (rs := [11]) (by kernel_rfl) (by simp) ⟨⟨_, rfl, ?_⟩, trivial⟩
                refine st_store (i := 0) Try.sizeOf34 hS rfl rfl rfl rfl rfl rfl rfl rfl rfl fun W a hS => wl_nil ?_
                refine anyh_next [false, false, true, true, true] hS (fun _ h => h.1) rfl ?_
                refine anyh_take (i := 12) [false, false, true, true, true] hS (fun _ h => h.1) rfl rfl (by kernel_rfl) (by kernel_rfl) (by kernel_rfl) rfl rfl (fun W' hS => run_assign hS rfl) fun a hS => ?_
                refine anyh_take (i := 13) [false, false, true, true, true] hS (fun _ h => h.1) rfl rfl (by kernel_rfl) (by kernel_rfl) (by kernel_rfl) rfl rfl (fun W' hS => run_assign hS rfl) fun a hS => ?_
                refine anyh_done (by kernel_rfl) ?_ _
                refine cut_end ⟨b5, ?_⟩
                dsimp only [List.cons_append, List.nil_append]
                exact ((hS.sub (Sub.cons rfl (Sub.cons rfl (Sub.cons rfl (Sub.cons rfl (Sub.cons rfl (Sub.cons rfl (Sub.cons rfl (Sub.cons rfl (Sub.cons rfl (Sub.cons rfl Sub.nil))))))))))).drop (List.Sublist.cons_cons _ (List.Sublist.cons _ (List.Sublist.refl _)))).less (fun _ h => h.1)
            · skip
              refine st_alloc_agg Try.zeroValue34 hS rfl rfl fun W a b6 hS => wl_nil ?_
              refine anyh_next [false, false, true, true, true] hS (fun _ h => h) rfl ?_
              refine anyh_go (rs := [4]) (by kernel_rfl) (by simp) ⟨⟨_, rfl, ?_⟩, trivial⟩
              refine st_app0 rfl (by decide) Try.underlying82 (AI.of ai88) Try.underlying82 drop_one (Hdr _ hS.below) (by first | omega | (simp; omega)) hS (i := 1) rfl rfl rfl rfl rfl fun v W a hR hB hlt hS => ?_
              
              obtain ⟨s2, rfl, hs2⟩ := hR
              have hS := hS.moreSl hlt hs2
              refine wl_nil ?_
              refine anyh_next [false, false, true, true, true] hS (fun _ h => h.1) rfl ?_
              refine anyh_go (rs := [5]) (by kernel_rfl) (by simp) ⟨⟨_, rfl, ?_⟩, trivial⟩
              refine st_call (rotor_Descent V0 r A s2 dr ((fun _ h => h) _ hS.now.1.2) ((fun _ h => h) _ hS.now.2)) Try.call45 hS rfl rfl rfl fun v W a hR hB hlt hS => ?_
              subst hR
              refine wl_nil ?_
              refine anyh_next [false, false, true, true, true] hS (fun _ h => h.1) rfl ?_
              refine anyh_take (i := 6) [false, false, true, true, true] hS (fun _ h => h.1) rfl rfl (by kernel_rfl) (by kernel_rfl) (by kernel_rfl) rfl rfl (fun W' hS => run_move hS rfl) fun a hS => ?_
              refine anyh_take (i := 7) [false, false, true, true, true] hS (fun _ h => h.1) rfl rfl (by kernel_rfl) (by kernel_rfl) (by kernel_rfl) rfl rfl (fun W' hS => run_extract hS rfl rfl) fun a hS => ?_
              refine anyh_take (i := 8) [false, false, true, true, true] hS (fun _ h => h.1) rfl rfl (by kernel_rfl) (by kernel_rfl) (by kernel_rfl) rfl rfl (fun W' hS => run_extract hS rfl rfl) fun a hS => ?_
              refine anyh_take (i := 9) [false, false, true, true, true] hS (fun _ h => h.1) rfl rfl (by kernel_rfl) (by kernel_rfl) (by kernel_rfl) rfl rfl (fun W' hS => run_extract hS rfl rfl) fun a hS => ?_
              refine anyh_go (rs := [11]) (by kernel_rfl) (by simp) ⟨⟨_, rfl, ?_⟩, trivial⟩
              refine st_store (i := 0) Try.sizeOf34 hS rfl rfl rfl rfl rfl rfl rfl rfl rfl fun W a hS => wl_nil ?_
              refine anyh_next [false, false, true, true, true] hS (fun _ h => h.1) rfl ?_
              refine anyh_take (i := 12) [false, false, true, true, true] hS (fun _ h => h.1) rfl rfl (by kernel_rfl) (by kernel_rfl) (by kernel_rfl) rfl rfl (fun W' hS => run_assign hS rfl) fun a hS => ?_
              refine anyh_take (i := 13) [false, false, true, true, true] hS (fun _ h => h.1) rfl rfl (by kernel_rfl) (by kernel_rfl) (by kernel_rfl) rfl rfl (fun W' hS => run_assign hS rfl) fun a hS => ?_
              refine anyh_done (by kernel_rfl) ?_ _
              refine cut_end ⟨b6, ?_⟩
              dsimp only [List.cons_append, List.nil_append]
              exact ((hS.sub (Sub.cons rfl (Sub.cons rfl (Sub.cons rfl (Sub.cons rfl (Sub.cons rfl (Sub.cons rfl (Sub.cons rfl (Sub.cons rfl (Sub.cons rfl (Sub.cons rfl Sub.nil))))))))))).drop (List.Sublist.cons_cons _ (List.Sublist.cons _ (List.Sublist.refl _)))).less (fun _ h => h.1)
          · skip
            refine st_alloc_agg Try.zeroValue34 hS rfl rfl fun W a b7 hS => wl_nil ?_
            refine anyh_next [false, true, true, true] hS (fun _ h => h) rfl ?_
            refine anyh_go (rs := [2]) (by kernel_rfl) (by simp) ⟨⟨_, rfl, ?_⟩, trivial⟩
            refine st_buildSlice (pv := []) (fun W => bs82_0_ W) hS rfl rfl rfl fun W a b8 hS => wl_nil ?_
            refine anyh_next [false, false, true, true, true] hS (fun _ h => h) rfl ?_
            refine anyh_go (rs := [4]) (by kernel_rfl) (by simp) ⟨⟨_, rfl, ?_⟩, trivial⟩
            refine st_app0 rfl (by decide) Try.underlying82 (AI.of ai88) Try.underlying82 drop_one (Hdr _ hS.below) (by first | omega | (simp; omega)) hS (i := 0) rfl rfl rfl rfl rfl fun v W a hR hB hlt hS => ?_
            
            obtain ⟨s3, rfl, hs3⟩ := hR
            have hS := hS.moreSl hlt hs3
            refine wl_nil ?_
            refine anyh_next [false, false, true, true, true] hS (fun _ h => h.1) rfl ?_
            refine anyh_go (rs := [5]) (by kernel_rfl) (by simp) ⟨⟨_, rfl, ?_⟩, trivial⟩
            refine st_call (rotor_Descent V0 r A s3 dr ((fun _ h => h) _ hS.now.1.2) ((fun _ h => h) _ hS.now.2)) Try.call45 hS rfl rfl rfl fun v W a hR hB hlt hS => ?_
            subst hR
            refine wl_nil ?_
            refine anyh_next [false, false, true, true, true] hS (fun _ h => h.1) rfl ?_
            refine anyh_take (i := 6) [false, false, true, true, true] hS (fun _ h => h.1) rfl rfl (by kernel_rfl) (by kernel_rfl) (by kernel_rfl) rfl rfl (fun W' hS => run_move hS rfl) fun a hS => ?_
            refine anyh_take (i := 7) [false, false, true, true, true] hS (fun _ h => h.1) rfl rfl (by kernel_rfl) (by kernel_rfl) (by kernel_rfl) rfl rfl (fun W' hS => run_extract hS rfl rfl) fun a hS => ?_
            refine anyh_take (i := 8) [false, false, true, true, true] hS (fun _ h => h.1) rfl rfl (by kernel_rfl) (by kernel_rfl) (by kernel_rfl) rfl rfl (fun W' hS => run_extract hS rfl rfl) fun a hS => ?_
            refine anyh_take (i := 9) [false, false, true, true, true] hS (fun _ h => h.1) rfl rfl (by kernel_rfl) (by kernel_rfl) (by kernel_rfl) rfl rfl (fun W' hS => run_extract hS rfl rfl) fun a hS => ?_
            refine anyh_go (rs := [11]) (by kernel_rfl) (by simp) ⟨⟨_, rfl, ?_⟩, trivial⟩
            refine st_store (i := 1) Try.sizeOf34 hS rfl rfl rfl rfl rfl rfl rfl rfl rfl fun W a hS => wl_nil ?_
            refine anyh_next [false, false, true, true, true] hS (fun _ h => h.1) rfl ?_
            refine anyh_take (i := 12) [false, false, true, true, true] hS (fun _ h => h.1) rfl rfl (by kernel_rfl) (by kernel_rfl) (by kernel_rfl) rfl rfl (fun W' hS => run_assign hS rfl) fun a hS => ?_
            refine anyh_take (i := 13) [false, false, true, true, true] hS (fun _ h => h.1) rfl rfl (by kernel_rfl) (by kernel_rfl) (by kernel_rfl) rfl rfl (fun W' hS => run_assign hS rfl) fun a hS => ?_
            refine anyh_done (by kernel_rfl) ?_ _
            refine cut_end ⟨b7, ?_⟩
            dsimp only [List.cons_append, List.nil_append]
            exact ((hS.sub (Sub.cons rfl (Sub.cons rfl (Sub.cons rfl (Sub.cons rfl (Sub.cons rfl (Sub.cons rfl (Sub.cons rfl (Sub.cons rfl (Sub.cons rfl (Sub.cons rfl Sub.nil))))))))))).drop (List.Sublist.cons _ (List.Sublist.cons_cons _ (List.Sublist.refl _)))).less (fun _ h => h.1)
        · intro W a b9 hS
          dsimp only [List.cons_append, List.nil_append] at hS
          refine wpIn_seq ?_
          refine wpIn_seq ?_
          refine wpIn_region_lit ?_
          refine st_v hS rfl rfl (run_move hS rfl) fun a hS => st_v hS rfl rfl (run_bin hS rfl rfl rfl) fun a hS => wl_nil ?_
          refine st_cond hS rfl (fun hc4 => ?_) (fun hc4 => ?_)
          · skip
            try simp only [decide_eq_true_eq, decide_eq_false_iff_not, Bool.not_eq_true', Bool.not_eq_false', bne_iff_ne, beq_iff_eq, bne_eq_false_iff_eq, beq_eq_false_iff_ne, ne_eq, Int.not_le, Int.not_lt, ge_iff_le, gt_iff_lt] at hc4
            refine wpIn_seq ?_
            refine wpIn_region_lit ?_
            refine st_call (law02_works) Try.call16 hS rfl rfl rfl fun v W a hR hB hlt hS => ?_
            subst hR
            refine st_v hS rfl rfl (run_assign hS rfl) fun a hS => wl_nil ?_
            refine wpIn_ret ?_
            repeat (first | refine q_ret ?_ | refine q_block_ret ?_)
            refine hS.done (res1 (fn := Try.f13) (r1 := .tmp 6) rfl (rv_tmp hS rfl)) ?_
            rfl
          · skip
            try simp only [decide_eq_true_eq, decide_eq_false_iff_not, Bool.not_eq_true', Bool.not_eq_false', bne_iff_ne, beq_iff_eq, bne_eq_false_iff_eq, beq_eq_false_iff_ne, ne_eq, Int.not_le, Int.not_lt, ge_iff_le, gt_iff_lt] at hc4
            obtain ⟨hR0, hlen, hall, hsok, hV⟩ := desc_ok hc4
            obtain ⟨hrok, haok, _⟩ := errC_ok hR0
            have hRp := rot_p hrok
            have hE1 : descE r A ((dr.drop 0).take ((dr.length / 2) - 0)) = 0 ∨ descE r A ((dr.drop 0).take ((dr.length / 2) - 0)) = 2 := desc_part hR0 (by simp; omega) hall fun d hd => mem_part hd
            have hE2 : descE r A ((dr.drop (dr.length / 2)).take (dr.length - (dr.length / 2))) = 0 ∨ descE r A ((dr.drop (dr.length / 2)).take (dr.length - (dr.length / 2))) = 2 := desc_part hR0 (by simp; omega) hall fun d hd => mem_part hd
            refine wpIn_skip ?_
            refine wpIn_seq ?_
            refine wpIn_region_lit ?_
            refine st_v hS rfl rfl (run_assign hS rfl) fun a hS => st_v hS rfl rfl (run_assign hS rfl) fun a hS => wl_nil ?_
            refine wpIn_seq ?_
            refine wpIn_seq ?_
            refine wpIn_region_lit ?_
            refine st_v hS rfl rfl (run_assign hS rfl) fun a hS => wl_nil ?_
            refine wpIn_block ?_
            refine st_loop2 (α := Nat) (fun i => [(13, .int .i64 (((i : Nat) : Int))), (11, .int .i64 ((sumLo (dr.take i)))), (12, .int .i64 ((sumHi (dr.take i))))]) [(10, _), (8, _), (0, _), (1, _), (2, _), (3, _), (4, _), (7, _)] (fun l _ => l) (fun i => i ≤ dr.length ∧ (-(i : Int) * 1000000000 ≤ sumLo (dr.take i) ∧ sumLo (dr.take i) ≤ (i : Int) * 1000000000) ∧ (-(i : Int) * 1000000000 ≤ sumHi (dr.take i) ∧ sumHi (dr.take i) ≤ (i : Int) * 1000000000)) (fun i => dr.length - i) (0) hS (Sub.cons rfl (Sub.cons rfl (Sub.cons rfl (Sub.cons rfl (Sub.cons rfl (Sub.cons rfl (Sub.cons rfl (Sub.cons rfl (Sub.cons rfl (Sub.cons rfl (Sub.cons rfl Sub.nil))))))))))) rfl (⟨Nat.zero_le _, by simp [sumLo], by simp [sumHi]⟩) (fun i W a hφ hS => ?_)
            dsimp only [setB, List.cons_append, List.nil_append, List.take] at hS
            obtain ⟨hi, hb1, hb2⟩ := hφ
            refine wpIn_seq ?_
            refine wpIn_seq ?_
            refine wpIn_region_lit ?_
            refine st_v hS rfl rfl (run_move hS rfl) fun a hS => st_v hS rfl rfl (run_move hS rfl) fun a hS => st_v hS rfl rfl (run_len_slice Try.underlying82 hS rfl) fun a hS => st_v hS rfl rfl (run_bin hS rfl rfl rfl) fun a hS => wl_nil ?_
            refine st_cond hS rfl (fun hc5 => ?_) (fun hc5 => ?_)
            · skip
              try simp only [decide_eq_true_eq, decide_eq_false_iff_not, Bool.not_eq_true', Bool.not_eq_false', bne_iff_ne, beq_iff_eq, bne_eq_false_iff_eq, beq_eq_false_iff_ne, ne_eq, Int.not_le, Int.not_lt, ge_iff_le, gt_iff_lt] at hc5
              have hd0 := hall (dropAt dr i) (by unfold dropAt; exact getD_mem (by omega))
              obtain ⟨hdo, hwk⟩ := dropOk_of hd0
              obtain ⟨hti, hsp, hsi, hli⟩ := dropOk_parts hdo
              have hsp' := (Span.ok_iff _).1 hsp; have hsi' := (Span.ok_iff _).1 hsi
              have hm1 := prod_abs (x := (dropAt dr i).sink.lo) (y := (dropAt dr i).ticks) (by omega) hti; have hm2 := prod_abs (x := (dropAt dr i).sink.hi) (y := (dropAt dr i).ticks) (by omega) hti
              have hs := sum_take (l := dr) (i := i) (by omega)
              refine wpIn_skip ?_
              refine wpIn_seq ?_
              refine wpIn_block ?_
              refine wpIn_seq ?_
              refine wpIn_region_lit ?_
              refine st_v hS rfl rfl (run_move hS rfl) fun a hS => st_v hS rfl rfl (run_move hS rfl) fun a hS => ?_
              obtain ⟨ad4, hA4, hL4⟩ := sl_of Hdr (Below.refl _ _) dropD (i := ((i : Nat) : Int)) (j := i) (by omega) (by omega)
              refine st_v hS rfl rfl (run_indexAddr Try.underlying82 Try.sizeOf88 hS rfl rfl hA4 (by omega) (by omega)) fun a hS => st_v hS rfl rfl (run_load_ext Try.isAgg88 Try.sizeOf88 hS rfl rfl (hL4 _ hS.below)) fun a hS => st_alloc_agg Try.zeroValue88 hS rfl rfl fun W a b10 hS => st_store (cs' := [.int .i64 ((((dropAt dr (i))).speed).lo), .int .i64 ((((dropAt dr (i))).speed).hi), .int .i64 ((((dropAt dr (i))).sink).lo), .int .i64 ((((dropAt dr (i))).sink).hi), .int .i64 (((dropAt dr (i))).ticks)]) (i := 0) Try.sizeOf88 hS rfl rfl rfl rfl rfl rfl rfl rfl rfl fun W a hS => wl_nil ?_
              refine wpIn_seq ?_
              refine wpIn_seq ?_
              refine wpIn_region_lit ?_
              refine st_v hS rfl rfl (run_fieldAddr fa88_0 hS rfl) fun a hS => st_v hS rfl rfl (run_load_agg (i := 0) (vs := [_, _]) Try.isAgg34 Try.sizeOf34 hS rfl rfl rfl ⟨rfl, rfl, trivial⟩) fun a hS => st_call (ref01_Valid (((dropAt dr (i))).speed)) Try.call25 hS rfl rfl rfl fun v W a hR hB hlt hS => ?_
              subst hR
              refine st_v hS rfl rfl (run_not hS rfl) fun a hS => st_v hS rfl rfl (run_move hS rfl) fun a hS => ?_
              refine st_split (d := 72) hS rfl (fun hc6 hS => ?_) (fun hc6 hS => ?_)
              · skip
                try simp only [decide_eq_true_eq, decide_eq_false_iff_not, Bool.not_eq_true', Bool.not_eq_false', bne_iff_ne, beq_iff_eq, bne_eq_false_iff_eq, beq_eq_false_iff_ne, ne_eq, Int.not_le, Int.not_lt, ge_iff_le, gt_iff_lt] at hc6
                rw [hsp] at hc6; cases hc6
              · skip
                try simp only [decide_eq_true_eq, decide_eq_false_iff_not, Bool.not_eq_true', Bool.not_eq_false', bne_iff_ne, beq_iff_eq, bne_eq_false_iff_eq, beq_eq_false_iff_ne, ne_eq, Int.not_le, Int.not_lt, ge_iff_le, gt_iff_lt] at hc6
                
                refine st_v hS (hS.wanted rfl rfl rfl) rfl (run_fieldAddr fa88_1 hS rfl) fun a hS => st_v hS (hS.wanted rfl rfl rfl) rfl (run_load_agg (i := 0) (vs := [_, _]) Try.isAgg34 Try.sizeOf34 hS rfl rfl rfl ⟨rfl, rfl, trivial⟩) fun a hS => st_call (ref01_Valid (((dropAt dr (i))).sink)) Try.call25 hS (hS.wanted rfl rfl rfl) rfl rfl fun v W a hR hB hlt hS => ?_
                subst hR
                refine st_v hS (hS.wanted rfl rfl rfl) rfl (run_not hS rfl) fun a hS => st_v hS rfl rfl (run_pick_f hS rfl rfl) fun a hS => wl_nil ?_
                refine st_cond hS rfl (fun hc7 => ?_) (fun hc7 => ?_)
                · skip
                  try simp only [decide_eq_true_eq, decide_eq_false_iff_not, Bool.not_eq_true', Bool.not_eq_false', bne_iff_ne, beq_iff_eq, bne_eq_false_iff_eq, beq_eq_false_iff_ne, ne_eq, Int.not_le, Int.not_lt, ge_iff_le, gt_iff_lt] at hc7
                  rw [hsi] at hc7; cases hc7
                · skip
                  try simp only [decide_eq_true_eq, decide_eq_false_iff_not, Bool.not_eq_true', Bool.not_eq_false', bne_iff_ne, beq_iff_eq, bne_eq_false_iff_eq, beq_eq_false_iff_ne, ne_eq, Int.not_le, Int.not_lt, ge_iff_le, gt_iff_lt] at hc7
                  
                  refine wpIn_skip ?_
                  refine wpIn_seq ?_
                  refine wpIn_seq ?_
                  refine wpIn_region_lit ?_
                  refine st_v hS rfl rfl (run_assign hS rfl) fun a hS => wl_nil ?_
                  refine wpIn_block ?_
                  refine st_loop2 (α := Nat) (fun kk => [(15, .int .i64 (((kk : Nat) : Int)))]) [(10, _), (8, _), (0, _), (1, _), (2, _), (3, _), (4, _), (7, _), (13, _), (11, _), (12, _), (14, _)] (fun l _ => l) (fun kk => kk ≤ 4) (fun kk => 4 - kk) (0) hS (Sub.cons rfl (Sub.cons rfl (Sub.cons rfl (Sub.cons rfl (Sub.cons rfl (Sub.cons rfl (Sub.cons rfl (Sub.cons rfl (Sub.cons rfl (Sub.cons rfl (Sub.cons rfl (Sub.cons rfl (Sub.cons rfl Sub.nil))))))))))))) rfl (by omega) (fun kk W a hφ hS => ?_)
                  dsimp only [setB, List.cons_append, List.nil_append, List.take] at hS
                  have hkk := hφ
                  refine wpIn_seq ?_
                  refine wpIn_seq ?_
                  refine wpIn_region_lit ?_
                  refine st_v hS rfl rfl (run_move hS rfl) fun a hS => st_v hS rfl rfl (run_bin hS rfl rfl rfl) fun a hS => wl_nil ?_
                  refine st_cond hS rfl (fun hc8 => ?_) (fun hc8 => ?_)
                  · skip
                    try simp only [decide_eq_true_eq, decide_eq_false_iff_not, Bool.not_eq_true', Bool.not_eq_false', bne_iff_ne, beq_iff_eq, bne_eq_false_iff_eq, beq_eq_false_iff_ne, ne_eq, Int.not_le, Int.not_lt, ge_iff_le, gt_iff_lt] at hc8
                    
                    refine wpIn_skip ?_
                    refine wpIn_seq ?_
                    refine wpIn_block ?_
                    refine wpIn_seq ?_
                    refine st_draw (by kernel_rfl) (by kernel_rfl) hS ?_
                    refine qt_v hS rfl rfl (fun W hB hS => run_fieldAddr fa88_0 hS rfl) fun a hS => qt_v hS rfl rfl (fun W hB hS => run_fieldAddr fa34_0 hS rfl) fun a hS => qt_v hS rfl rfl (fun W hB hS => run_load_one (i := 0) Try.isAgg3 hS rfl rfl rfl) fun a hS => qt_v hS rfl rfl (fun W hB hS => run_fieldAddr fa88_1 hS rfl) fun a hS => qt_v hS rfl rfl (fun W hB hS => run_fieldAddr fa34_0 hS rfl) fun a hS => qt_v hS rfl rfl (fun W hB hS => run_load_one (i := 0) Try.isAgg3 hS rfl rfl rfl) fun a hS => qt_v hS rfl rfl (fun W hB hS => run_assign hS rfl) fun a hS => qt_v hS rfl rfl (fun W hB hS => run_assign hS rfl) fun a hS => qt_nil hS fun W hS => ?_
                    refine wpIn_seq ?_
                    refine wpIn_seq ?_
                    refine wpIn_region_lit ?_
                    refine st_v hS rfl rfl (run_move hS rfl) fun a hS => st_v hS rfl rfl (run_rem' (t := Int.tmod (((kk : Nat) : Int)) 2) hS rfl rfl (by omega) (rfl)) fun a hS => st_v hS rfl rfl (run_bin hS rfl rfl rfl) fun a hS => wl_nil ?_
                    refine st_cond hS rfl (fun hc9 => ?_) (fun hc9 => ?_)
                    · skip
                      try simp only [decide_eq_true_eq, decide_eq_false_iff_not, Bool.not_eq_true', Bool.not_eq_false', bne_iff_ne, beq_iff_eq, bne_eq_false_iff_eq, beq_eq_false_iff_ne, ne_eq, Int.not_le, Int.not_lt, ge_iff_le, gt_iff_lt] at hc9
                      
                      refine wpIn_region_lit ?_
                      refine st_v hS rfl rfl (run_fieldAddr fa88_0 hS rfl) fun a hS => st_v hS rfl rfl (run_fieldAddr fa34_1 hS rfl) fun a hS => st_v hS rfl rfl (run_load_one (i := 0) Try.isAgg3 hS rfl rfl rfl) fun a hS => st_v hS rfl rfl (run_assign hS rfl) fun a hS => wl_nil ?_
                      refine wpIn_seq ?_
                      refine wpIn_seq ?_
                      refine wpIn_region_lit ?_
                      refine st_v hS rfl rfl (run_move hS rfl) fun a hS => st_v hS rfl rfl (run_bin hS rfl rfl rfl) fun a hS => wl_nil ?_
                      refine st_cond hS rfl (fun hc10 => ?_) (fun hc10 => ?_)
                      · skip
                        try simp only [decide_eq_true_eq, decide_eq_false_iff_not, Bool.not_eq_true', Bool.not_eq_false', bne_iff_ne, beq_iff_eq, bne_eq_false_iff_eq, beq_eq_false_iff_ne, ne_eq, Int.not_le, Int.not_lt, ge_iff_le, gt_iff_lt] at hc10
                        have hwc := wake_corner (x := (dropAt dr i).speed.hi) (y := (dropAt dr i).sink.hi) hrok haok hdo hwk (by omega) (by omega)
                        refine wpIn_region_lit ?_
                        refine st_v hS rfl rfl (run_fieldAddr fa88_1 hS rfl) fun a hS => st_v hS rfl rfl (run_fieldAddr fa34_1 hS rfl) fun a hS => st_v hS rfl rfl (run_load_one (i := 0) Try.isAgg3 hS rfl rfl rfl) fun a hS => st_v hS rfl rfl (run_assign hS rfl) fun a hS => wl_nil ?_
                        refine wpIn_seq ?_
                        refine wpIn_region_lit ?_
                        refine st_v hS rfl rfl (run_load_all (i := 2) Try.isAgg27 Try.sizeOf27 hS rfl rfl rfl) fun a hS => st_v hS rfl rfl (run_load_all (i := 3) Try.isAgg36 Try.sizeOf36 hS rfl rfl rfl) fun a hS => st_v hS rfl rfl (run_move hS rfl) fun a hS => st_v hS rfl rfl (run_move hS rfl) fun a hS => st_v hS rfl rfl (run_build (pv := [(0, .int .i64 _), (1, .int .i64 _)]) (fun W => bd34_0_1 _ _ W) hS rfl) fun a hS => st_v hS rfl rfl (run_move hS rfl) fun a hS => st_v hS rfl rfl (run_move hS rfl) fun a hS => st_v hS rfl rfl (run_build (pv := [(0, .int .i64 _), (1, .int .i64 _)]) (fun W => bd34_0_1 _ _ W) hS rfl) fun a hS => st_call (rotor_Wake V0 r A (⟨(((dropAt dr (i))).speed).hi, (((dropAt dr (i))).speed).hi⟩ : Span) (⟨(((dropAt dr (i))).sink).hi, (((dropAt dr (i))).sink).hi⟩ : Span) ((fun _ h => h) _ hS.now.2)) Try.call28 hS rfl rfl rfl fun v W a hR hB hlt hS => ?_
                        subst hR
                        refine st_v hS rfl rfl (run_move hS rfl) fun a hS => st_v hS rfl rfl (run_extract hS rfl rfl) fun a hS => st_v hS rfl rfl (run_extract hS rfl rfl) fun a hS => st_v hS rfl rfl (run_assign hS rfl) fun a hS => st_v hS rfl rfl (run_assign hS rfl) fun a hS => wl_nil ?_
                        have hS := hS.sub (κ' := [(10, _), (8, _), (0, _), (1, _), (2, _), (3, _), (4, _), (7, _), (13, _), (11, _), (12, _), (14, _), (15, _), (16, _), (17, _), (18, _), (19, _)]) (Sub.cons rfl (Sub.cons rfl (Sub.cons rfl (Sub.cons rfl (Sub.cons rfl (Sub.cons rfl (Sub.cons rfl (Sub.cons rfl (Sub.cons rfl (Sub.cons rfl (Sub.cons rfl (Sub.cons rfl (Sub.cons rfl (Sub.cons rfl (Sub.cons rfl (Sub.cons rfl (Sub.cons rfl Sub.nil)))))))))))))))))
                        refine wpIn_seq ?_
                        refine wpIn_region_lit ?_
                        refine st_v hS rfl rfl (run_move hS rfl) fun a hS => st_v hS rfl rfl (run_bin hS rfl rfl rfl) fun a hS => st_v hS rfl rfl (run_move hS rfl) fun a hS => ?_
                        refine st_split (d := 113) hS rfl (fun hc11 hS => ?_) (fun hc11 hS => ?_)
                        · skip
                          try simp only [decide_eq_true_eq, decide_eq_false_iff_not, Bool.not_eq_true', Bool.not_eq_false', bne_iff_ne, beq_iff_eq, bne_eq_false_iff_eq, beq_eq_false_iff_ne, ne_eq, Int.not_le, Int.not_lt, ge_iff_le, gt_iff_lt] at hc11
                          exact absurd hwc.1 hc11
                        · skip
                          try simp only [decide_eq_true_eq, decide_eq_false_iff_not, Bool.not_eq_true', Bool.not_eq_false', bne_iff_ne, beq_iff_eq, bne_eq_false_iff_eq, beq_eq_false_iff_ne, ne_eq, Int.not_le, Int.not_lt, ge_iff_le, gt_iff_lt] at hc11
                          
                          refine st_v hS (hS.wanted rfl rfl rfl) rfl (run_move hS rfl) fun a hS => st_v hS rfl rfl (run_pick_f hS rfl rfl) fun a hS => wl_nil ?_
                          refine st_cond hS rfl (fun hc12 => ?_) (fun hc12 => ?_)
                          · skip
                            try simp only [decide_eq_true_eq, decide_eq_false_iff_not, Bool.not_eq_true', Bool.not_eq_false', bne_iff_ne, beq_iff_eq, bne_eq_false_iff_eq, beq_eq_false_iff_ne, ne_eq, Int.not_le, Int.not_lt, ge_iff_le, gt_iff_lt] at hc12
                            have h12 : wakeV r A ⟨(dropAt dr i).speed.hi, (dropAt dr i).speed.hi⟩ ⟨(dropAt dr i).sink.hi, (dropAt dr i).sink.hi⟩ = true := hc12
                            rw [hwc.2] at h12; cases h12
                          · skip
                            try simp only [decide_eq_true_eq, decide_eq_false_iff_not, Bool.not_eq_true', Bool.not_eq_false', bne_iff_ne, beq_iff_eq, bne_eq_false_iff_eq, beq_eq_false_iff_ne, ne_eq, Int.not_le, Int.not_lt, ge_iff_le, gt_iff_lt] at hc12
                            
                            refine wpIn_skip ?_
                            refine wpIn_region_lit ?_
                            refine st_v hS rfl rfl (run_move hS rfl) fun a hS => st_v hS rfl rfl (run_add (t := ((kk + 1 : Nat) : Int)) hS rfl rfl (by omega) (by omega) (by omega)) fun a hS => st_v hS rfl rfl (run_assign hS rfl) fun a hS => wl_nil ?_
                            refine ⟨kk + 1, ⟨by omega, by omega⟩, (hS.sub (Sub.cons rfl (Sub.cons rfl (Sub.cons rfl (Sub.cons rfl (Sub.cons rfl (Sub.cons rfl (Sub.cons rfl (Sub.cons rfl (Sub.cons rfl (Sub.cons rfl (Sub.cons rfl (Sub.cons rfl (Sub.cons rfl Sub.nil))))))))))))))⟩
                      · skip
                        try simp only [decide_eq_true_eq, decide_eq_false_iff_not, Bool.not_eq_true', Bool.not_eq_false', bne_iff_ne, beq_iff_eq, bne_eq_false_iff_eq, beq_eq_false_iff_ne, ne_eq, Int.not_le, Int.not_lt, ge_iff_le, gt_iff_lt] at hc10
                        have hwc := wake_corner (x := (dropAt dr i).speed.hi) (y := (dropAt dr i).sink.lo) hrok haok hdo hwk (by omega) (by omega)
                        refine wpIn_skip ?_
                        refine wpIn_seq ?_
                        refine wpIn_region_lit ?_
                        refine st_v hS rfl rfl (run_load_all (i := 2) Try.isAgg27 Try.sizeOf27 hS rfl rfl rfl) fun a hS => st_v hS rfl rfl (run_load_all (i := 3) Try.isAgg36 Try.sizeOf36 hS rfl rfl rfl) fun a hS => st_v hS rfl rfl (run_move hS rfl) fun a hS => st_v hS rfl rfl (run_move hS rfl) fun a hS => st_v hS rfl rfl (run_build (pv := [(0, .int .i64 _), (1, .int .i64 _)]) (fun W => bd34_0_1 _ _ W) hS rfl) fun a hS => st_v hS rfl rfl (run_move hS rfl) fun a hS => st_v hS rfl rfl (run_move hS rfl) fun a hS => st_v hS rfl rfl (run_build (pv := [(0, .int .i64 _), (1, .int .i64 _)]) (fun W => bd34_0_1 _ _ W) hS rfl) fun a hS => st_call (rotor_Wake V0 r A (⟨(((dropAt dr (i))).speed).hi, (((dropAt dr (i))).speed).hi⟩ : Span) (⟨(((dropAt dr (i))).sink).lo, (((dropAt dr (i))).sink).lo⟩ : Span) ((fun _ h => h) _ hS.now.2)) Try.call28 hS rfl rfl rfl fun v W a hR hB hlt hS => ?_
                        subst hR
                        refine st_v hS rfl rfl (run_move hS rfl) fun a hS => st_v hS rfl rfl (run_extract hS rfl rfl) fun a hS => st_v hS rfl rfl (run_extract hS rfl rfl) fun a hS => st_v hS rfl rfl (run_assign hS rfl) fun a hS => st_v hS rfl rfl (run_assign hS rfl) fun a hS => wl_nil ?_
                        have hS := hS.sub (κ' := [(10, _), (8, _), (0, _), (1, _), (2, _), (3, _), (4, _), (7, _), (13, _), (11, _), (12, _), (14, _), (15, _), (16, _), (17, _), (18, _), (19, _)]) (Sub.cons rfl (Sub.cons rfl (Sub.cons rfl (Sub.cons rfl (Sub.cons rfl (Sub.cons rfl (Sub.cons rfl (Sub.cons rfl (Sub.cons rfl (Sub.cons rfl (Sub.cons rfl (Sub.cons rfl (Sub.cons rfl (Sub.cons rfl (Sub.cons rfl (Sub.cons rfl (Sub.cons rfl Sub.nil)))))))))))))))))
                        refine wpIn_seq ?_
                        refine wpIn_region_lit ?_
                        refine st_v hS rfl rfl (run_move hS rfl) fun a hS => st_v hS rfl rfl (run_bin hS rfl rfl rfl) fun a hS => st_v hS rfl rfl (run_move hS rfl) fun a hS => ?_
                        refine st_split (d := 113) hS rfl (fun hc13 hS => ?_) (fun hc13 hS => ?_)
                        · skip
                          try simp only [decide_eq_true_eq, decide_eq_false_iff_not, Bool.not_eq_true', Bool.not_eq_false', bne_iff_ne, beq_iff_eq, bne_eq_false_iff_eq, beq_eq_false_iff_ne, ne_eq, Int.not_le, Int.not_lt, ge_iff_le, gt_iff_lt] at hc13
                          exact absurd hwc.1 hc13
                        · skip
                          try simp only [decide_eq_true_eq, decide_eq_false_iff_not, Bool.not_eq_true', Bool.not_eq_false', bne_iff_ne, beq_iff_eq, bne_eq_false_iff_eq, beq_eq_false_iff_ne, ne_eq, Int.not_le, Int.not_lt, ge_iff_le, gt_iff_lt] at hc13
                          
                          refine st_v hS (hS.wanted rfl rfl rfl) rfl (run_move hS rfl) fun a hS => st_v hS rfl rfl (run_pick_f hS rfl rfl) fun a hS => wl_nil ?_
                          refine st_cond hS rfl (fun hc14 => ?_) (fun hc14 => ?_)
                          · skip
                            try simp only [decide_eq_true_eq, decide_eq_false_iff_not, Bool.not_eq_true', Bool.not_eq_false', bne_iff_ne, beq_iff_eq, bne_eq_false_iff_eq, beq_eq_false_iff_ne, ne_eq, Int.not_le, Int.not_lt, ge_iff_le, gt_iff_lt] at hc14
                            have h12 : wakeV r A ⟨(dropAt dr i).speed.hi, (dropAt dr i).speed.hi⟩ ⟨(dropAt dr i).sink.lo, (dropAt dr i).sink.lo⟩ = true := hc14
                            rw [hwc.2] at h12; cases h12
                          · skip
                            try simp only [decide_eq_true_eq, decide_eq_false_iff_not, Bool.not_eq_true', Bool.not_eq_false', bne_iff_ne, beq_iff_eq, bne_eq_false_iff_eq, beq_eq_false_iff_ne, ne_eq, Int.not_le, Int.not_lt, ge_iff_le, gt_iff_lt] at hc14
                            
                            refine wpIn_skip ?_
                            refine wpIn_region_lit ?_
                            refine st_v hS rfl rfl (run_move hS rfl) fun a hS => st_v hS rfl rfl (run_add (t := ((kk + 1 : Nat) : Int)) hS rfl rfl (by omega) (by omega) (by omega)) fun a hS => st_v hS rfl rfl (run_assign hS rfl) fun a hS => wl_nil ?_
                            refine ⟨kk + 1, ⟨by omega, by omega⟩, (hS.sub (Sub.cons rfl (Sub.cons rfl (Sub.cons rfl (Sub.cons rfl (Sub.cons rfl (Sub.cons rfl (Sub.cons rfl (Sub.cons rfl (Sub.cons rfl (Sub.cons rfl (Sub.cons rfl (Sub.cons rfl (Sub.cons rfl Sub.nil))))))))))))))⟩
                    · skip
                      try simp only [decide_eq_true_eq, decide_eq_false_iff_not, Bool.not_eq_true', Bool.not_eq_false', bne_iff_ne, beq_iff_eq, bne_eq_false_iff_eq, beq_eq_false_iff_ne, ne_eq, Int.not_le, Int.not_lt, ge_iff_le, gt_iff_lt] at hc9
                      
                      refine wpIn_skip ?_
                      refine wpIn_seq ?_
                      refine wpIn_seq ?_
                      refine wpIn_region_lit ?_
                      refine st_v hS rfl rfl (run_move hS rfl) fun a hS => st_v hS rfl rfl (run_bin hS rfl rfl rfl) fun a hS => wl_nil ?_
                      refine st_cond hS rfl (fun hc15 => ?_) (fun hc15 => ?_)
                      · skip
                        try simp only [decide_eq_true_eq, decide_eq_false_iff_not, Bool.not_eq_true', Bool.not_eq_false', bne_iff_ne, beq_iff_eq, bne_eq_false_iff_eq, beq_eq_false_iff_ne, ne_eq, Int.not_le, Int.not_lt, ge_iff_le, gt_iff_lt] at hc15
                        have hwc := wake_corner (x := (dropAt dr i).speed.lo) (y := (dropAt dr i).sink.hi) hrok haok hdo hwk (by omega) (by omega)
                        refine wpIn_region_lit ?_
                        refine st_v hS rfl rfl (run_fieldAddr fa88_1 hS rfl) fun a hS => st_v hS rfl rfl (run_fieldAddr fa34_1 hS rfl) fun a hS => st_v hS rfl rfl (run_load_one (i := 0) Try.isAgg3 hS rfl rfl rfl) fun a hS => st_v hS rfl rfl (run_assign hS rfl) fun a hS => wl_nil ?_
                        refine wpIn_seq ?_
                        refine wpIn_region_lit ?_
                        refine st_v hS rfl rfl (run_load_all (i := 2) Try.isAgg27 Try.sizeOf27 hS rfl rfl rfl) fun a hS => st_v hS rfl rfl (run_load_all (i := 3) Try.isAgg36 Try.sizeOf36 hS rfl rfl rfl) fun a hS => st_v hS rfl rfl (run_move hS rfl) fun a hS => st_v hS rfl rfl (run_move hS rfl) fun a hS => st_v hS rfl rfl (run_build (pv := [(0, .int .i64 _), (1, .int .i64 _)]) (fun W => bd34_0_1 _ _ W) hS rfl) fun a hS => st_v hS rfl rfl (run_move hS rfl) fun a hS => st_v hS rfl rfl (run_move hS rfl) fun a hS => st_v hS rfl rfl (run_build (pv := [(0, .int .i64 _), (1, .int .i64 _)]) (fun W => bd34_0_1 _ _ W) hS rfl) fun a hS => st_call (rotor_Wake V0 r A (⟨(((dropAt dr (i))).speed).lo, (((dropAt dr (i))).speed).lo⟩ : Span) (⟨(((dropAt dr (i))).sink).hi, (((dropAt dr (i))).sink).hi⟩ : Span) ((fun _ h => h) _ hS.now.2)) Try.call28 hS rfl rfl rfl fun v W a hR hB hlt hS => ?_
                        subst hR
                        refine st_v hS rfl rfl (run_move hS rfl) fun a hS => st_v hS rfl rfl (run_extract hS rfl rfl) fun a hS => st_v hS rfl rfl (run_extract hS rfl rfl) fun a hS => st_v hS rfl rfl (run_assign hS rfl) fun a hS => st_v hS rfl rfl (run_assign hS rfl) fun a hS => wl_nil ?_
                        have hS := hS.sub (κ' := [(10, _), (8, _), (0, _), (1, _), (2, _), (3, _), (4, _), (7, _), (13, _), (11, _), (12, _), (14, _), (15, _), (16, _), (17, _), (18, _), (19, _)]) (Sub.cons rfl (Sub.cons rfl (Sub.cons rfl (Sub.cons rfl (Sub.cons rfl (Sub.cons rfl (Sub.cons rfl (Sub.cons rfl (Sub.cons rfl (Sub.cons rfl (Sub.cons rfl (Sub.cons rfl (Sub.cons rfl (Sub.cons rfl (Sub.cons rfl (Sub.cons rfl (Sub.cons rfl Sub.nil)))))))))))))))))
                        refine wpIn_seq ?_
                        refine wpIn_region_lit ?_
                        refine st_v hS rfl rfl (run_move hS rfl) fun a hS => st_v hS rfl rfl (run_bin hS rfl rfl rfl) fun a hS => st_v hS rfl rfl (run_move hS rfl) fun a hS => ?_
                        refine st_split (d := 113) hS rfl (fun hc16 hS => ?_) (fun hc16 hS => ?_)
                        · skip
                          try simp only [decide_eq_true_eq, decide_eq_false_iff_not, Bool.not_eq_true', Bool.not_eq_false', bne_iff_ne, beq_iff_eq, bne_eq_false_iff_eq, beq_eq_false_iff_ne, ne_eq, Int.not_le, Int.not_lt, ge_iff_le, gt_iff_lt] at hc16
                          exact absurd hwc.1 hc16
                        · skip
                          try simp only [decide_eq_true_eq, decide_eq_false_iff_not, Bool.not_eq_true', Bool.not_eq_false', bne_iff_ne, beq_iff_eq, bne_eq_false_iff_eq, beq_eq_false_iff_ne, ne_eq, Int.not_le, Int.not_lt, ge_iff_le, gt_iff_lt] at hc16
                          
                          refine st_v hS (hS.wanted rfl rfl rfl) rfl (run_move hS rfl) fun a hS => st_v hS rfl rfl (run_pick_f hS rfl rfl) fun a hS => wl_nil ?_
                          refine st_cond hS rfl (fun hc17 => ?_) (fun hc17 => ?_)
                          · skip
                            try simp only [decide_eq_true_eq, decide_eq_false_iff_not, Bool.not_eq_true', Bool.not_eq_false', bne_iff_ne, beq_iff_eq, bne_eq_false_iff_eq, beq_eq_false_iff_ne, ne_eq, Int.not_le, Int.not_lt, ge_iff_le, gt_iff_lt] at hc17
                            have h12 : wakeV r A ⟨(dropAt dr i).speed.lo, (dropAt dr i).speed.lo⟩ ⟨(dropAt dr i).sink.hi, (dropAt dr i).sink.hi⟩ = true := hc17
                            rw [hwc.2] at h12; cases h12
                          · skip
                            try simp only [decide_eq_true_eq, decide_eq_false_iff_not, Bool.not_eq_true', Bool.not_eq_false', bne_iff_ne, beq_iff_eq, bne_eq_false_iff_eq, beq_eq_false_iff_ne, ne_eq, Int.not_le, Int.not_lt, ge_iff_le, gt_iff_lt] at hc17
                            
                            refine wpIn_skip ?_
                            refine wpIn_region_lit ?_
                            refine st_v hS rfl rfl (run_move hS rfl) fun a hS => st_v hS rfl rfl (run_add (t := ((kk + 1 : Nat) : Int)) hS rfl rfl (by omega) (by omega) (by omega)) fun a hS => st_v hS rfl rfl (run_assign hS rfl) fun a hS => wl_nil ?_
                            refine ⟨kk + 1, ⟨by omega, by omega⟩, (hS.sub (Sub.cons rfl (Sub.cons rfl (Sub.cons rfl (Sub.cons rfl (Sub.cons rfl (Sub.cons rfl (Sub.cons rfl (Sub.cons rfl (Sub.cons rfl (Sub.cons rfl (Sub.cons rfl (Sub.cons rfl (Sub.cons rfl Sub.nil))))))))))))))⟩
                      · skip
                        try simp only [decide_eq_true_eq, decide_eq_false_iff_not, Bool.not_eq_true', Bool.not_eq_false', bne_iff_ne, beq_iff_eq, bne_eq_false_iff_eq, beq_eq_false_iff_ne, ne_eq, Int.not_le, Int.not_lt, ge_iff_le, gt_iff_lt] at hc15
                        have hwc := wake_corner (x := (dropAt dr i).speed.lo) (y := (dropAt dr i).sink.lo) hrok haok hdo hwk (by omega) (by omega)
                        refine wpIn_skip ?_
                        refine wpIn_seq ?_
                        refine wpIn_region_lit ?_
                        refine st_v hS rfl rfl (run_load_all (i := 2) Try.isAgg27 Try.sizeOf27 hS rfl rfl rfl) fun a hS => st_v hS rfl rfl (run_load_all (i := 3) Try.isAgg36 Try.sizeOf36 hS rfl rfl rfl) fun a hS => st_v hS rfl rfl (run_move hS rfl) fun a hS => st_v hS rfl rfl (run_move hS rfl) fun a hS => st_v hS rfl rfl (run_build (pv := [(0, .int .i64 _), (1, .int .i64 _)]) (fun W => bd34_0_1 _ _ W) hS rfl) fun a hS => st_v hS rfl rfl (run_move hS rfl) fun a hS => st_v hS rfl rfl (run_move hS rfl) fun a hS => st_v hS rfl rfl (run_build (pv := [(0, .int .i64 _), (1, .int .i64 _)]) (fun W => bd34_0_1 _ _ W) hS rfl) fun a hS => st_call (rotor_Wake V0 r A (⟨(((dropAt dr (i))).speed).lo, (((dropAt dr (i))).speed).lo⟩ : Span) (⟨(((dropAt dr (i))).sink).lo, (((dropAt dr (i))).sink).lo⟩ : Span) ((fun _ h => h) _ hS.now.2)) Try.call28 hS rfl rfl rfl fun v W a hR hB hlt hS => ?_
                        subst hR
                        refine st_v hS rfl rfl (run_move hS rfl) fun a hS => st_v hS rfl rfl (run_extract hS rfl rfl) fun a hS => st_v hS rfl rfl (run_extract hS rfl rfl) fun a hS => st_v hS rfl rfl (run_assign hS rfl) fun a hS => st_v hS rfl rfl (run_assign hS rfl) fun a hS => wl_nil ?_
                        have hS := hS.sub (κ' := [(10, _), (8, _), (0, _), (1, _), (2, _), (3, _), (4, _), (7, _), (13, _), (11, _), (12, _), (14, _), (15, _), (16, _), (17, _), (18, _), (19, _)]) (Sub.cons rfl (Sub.cons rfl (Sub.cons rfl (Sub.cons rfl (Sub.cons rfl (Sub.cons rfl (Sub.cons rfl (Sub.cons rfl (Sub.cons rfl (Sub.cons rfl (Sub.cons rfl (Sub.cons rfl (Sub.cons rfl (Sub.cons rfl (Sub.cons rfl (Sub.cons rfl (Sub.cons rfl Sub.nil)))))))))))))))))
                        refine wpIn_seq ?_
                        refine wpIn_region_lit ?_
                        refine st_v hS rfl rfl (run_move hS rfl) fun a hS => st_v hS rfl rfl (run_bin hS rfl rfl rfl) fun a hS => st_v hS rfl rfl (run_move hS rfl) fun a hS => ?_
                        refine st_split (d := 113) hS rfl (fun hc18 hS => ?_) (fun hc18 hS => ?_)
                        · skip
                          try simp only [decide_eq_true_eq, decide_eq_false_iff_not, Bool.not_eq_true', Bool.not_eq_false', bne_iff_ne, beq_iff_eq, bne_eq_false_iff_eq, beq_eq_false_iff_ne, ne_eq, Int.not_le, Int.not_lt, ge_iff_le, gt_iff_lt] at hc18
                          exact absurd hwc.1 hc18
                        · skip
                          try simp only [decide_eq_true_eq, decide_eq_false_iff_not, Bool.not_eq_true', Bool.not_eq_false', bne_iff_ne, beq_iff_eq, bne_eq_false_iff_eq, beq_eq_false_iff_ne, ne_eq, Int.not_le, Int.not_lt, ge_iff_le, gt_iff_lt] at hc18
                          
                          refine st_v hS (hS.wanted rfl rfl rfl) rfl (run_move hS rfl) fun a hS => st_v hS rfl rfl (run_pick_f hS rfl rfl) fun a hS => wl_nil ?_
                          refine st_cond hS rfl (fun hc19 => ?_) (fun hc19 => ?_)
                          · skip
                            try simp only [decide_eq_true_eq, decide_eq_false_iff_not, Bool.not_eq_true', Bool.not_eq_false', bne_iff_ne, beq_iff_eq, bne_eq_false_iff_eq, beq_eq_false_iff_ne, ne_eq, Int.not_le, Int.not_lt, ge_iff_le, gt_iff_lt] at hc19
                            have h12 : wakeV r A ⟨(dropAt dr i).speed.lo, (dropAt dr i).speed.lo⟩ ⟨(dropAt dr i).sink.lo, (dropAt dr i).sink.lo⟩ = true := hc19
                            rw [hwc.2] at h12; cases h12
                          · skip
                            try simp only [decide_eq_true_eq, decide_eq_false_iff_not, Bool.not_eq_true', Bool.not_eq_false', bne_iff_ne, beq_iff_eq, bne_eq_false_iff_eq, beq_eq_false_iff_ne, ne_eq, Int.not_le, Int.not_lt, ge_iff_le, gt_iff_lt] at hc19
                            
                            refine wpIn_skip ?_
                            refine wpIn_region_lit ?_
                            refine st_v hS rfl rfl (run_move hS rfl) fun a hS => st_v hS rfl rfl (run_add (t := ((kk + 1 : Nat) : Int)) hS rfl rfl (by omega) (by omega) (by omega)) fun a hS => st_v hS rfl rfl (run_assign hS rfl) fun a hS => wl_nil ?_
                            refine ⟨kk + 1, ⟨by omega, by omega⟩, (hS.sub (Sub.cons rfl (Sub.cons rfl (Sub.cons rfl (Sub.cons rfl (Sub.cons rfl (Sub.cons rfl (Sub.cons rfl (Sub.cons rfl (Sub.cons rfl (Sub.cons rfl (Sub.cons rfl (Sub.cons rfl (Sub.cons rfl Sub.nil))))))))))))))⟩
                  · skip
                    try simp only [decide_eq_true_eq, decide_eq_false_iff_not, Bool.not_eq_true', Bool.not_eq_false', bne_iff_ne, beq_iff_eq, bne_eq_false_iff_eq, beq_eq_false_iff_ne, ne_eq, Int.not_le, Int.not_lt, ge_iff_le, gt_iff_lt] at hc8
                    
                    refine wpIn_exit ?_
                    refine wpIn_seq ?_
                    refine wpIn_region_lit ?_
                    refine st_v hS rfl rfl (run_move hS rfl) fun a hS => st_v hS rfl rfl (run_fieldAddr fa88_1 hS rfl) fun a hS => st_v hS rfl rfl (run_fieldAddr fa34_0 hS rfl) fun a hS => st_v hS rfl rfl (run_load_one (i := 0) Try.isAgg3 hS rfl rfl rfl) fun a hS => st_v hS rfl rfl (run_fieldAddr fa88_2 hS rfl) fun a hS => st_v hS rfl rfl (run_load_one (i := 0) Try.isAgg3 hS rfl rfl rfl) fun a hS => st_v hS rfl rfl (run_mul (t := ((dropAt dr i).sink.lo * (dropAt dr i).ticks)) hS rfl rfl (by rfl) (by omega)) fun a hS => st_v hS rfl rfl (run_add (t := (sumLo (dr.take (i + 1)))) hS rfl rfl (by exact hs.1.symm) (by omega) (by omega)) fun a hS => st_v hS rfl rfl (run_assign hS rfl) fun a hS => wl_nil ?_
                    refine wpIn_region_lit ?_
                    refine st_v hS rfl rfl (run_move hS rfl) fun a hS => st_v hS rfl rfl (run_fieldAddr fa88_1 hS rfl) fun a hS => st_v hS rfl rfl (run_fieldAddr fa34_1 hS rfl) fun a hS => st_v hS rfl rfl (run_load_one (i := 0) Try.isAgg3 hS rfl rfl rfl) fun a hS => st_v hS rfl rfl (run_fieldAddr fa88_2 hS rfl) fun a hS => st_v hS rfl rfl (run_load_one (i := 0) Try.isAgg3 hS rfl rfl rfl) fun a hS => st_v hS rfl rfl (run_mul (t := ((dropAt dr i).sink.hi * (dropAt dr i).ticks)) hS rfl rfl (by rfl) (by omega)) fun a hS => st_v hS rfl rfl (run_add (t := (sumHi (dr.take (i + 1)))) hS rfl rfl (by exact hs.2.symm) (by omega) (by omega)) fun a hS => st_v hS rfl rfl (run_assign hS rfl) fun a hS => wl_nil ?_
                    refine wpIn_region_lit ?_
                    refine st_v hS rfl rfl (run_move hS rfl) fun a hS => st_v hS rfl rfl (run_add (t := ((i + 1 : Nat) : Int)) hS rfl rfl (by omega) (by omega) (by omega)) fun a hS => st_v hS rfl rfl (run_assign hS rfl) fun a hS => wl_nil ?_
                    refine ⟨i + 1, ⟨⟨by omega, by rw [hs.1]; omega, by rw [hs.2]; omega⟩, by omega⟩, (hS.sub (Sub.cons rfl (Sub.cons rfl (Sub.cons rfl (Sub.cons rfl (Sub.cons rfl (Sub.cons rfl (Sub.cons rfl (Sub.cons rfl (Sub.cons rfl (Sub.cons rfl (Sub.cons rfl Sub.nil)))))))))))).drop (List.Sublist.cons _ (List.Sublist.refl _))⟩
            · skip
              try simp only [decide_eq_true_eq, decide_eq_false_iff_not, Bool.not_eq_true', Bool.not_eq_false', bne_iff_ne, beq_iff_eq, bne_eq_false_iff_eq, beq_eq_false_iff_ne, ne_eq, Int.not_le, Int.not_lt, ge_iff_le, gt_iff_lt] at hc5
              have e : dr.take i = dr := List.take_of_length_le (by omega)
              refine wpIn_exit ?_
              refine wpIn_seq ?_
              refine wpIn_seq ?_
              refine wpIn_region_lit ?_
              refine st_v hS rfl rfl (run_load_all (i := 0) Try.isAgg34 Try.sizeOf34 hS rfl rfl rfl) fun a hS => st_v hS rfl rfl (run_move hS rfl) fun a hS => st_v hS rfl rfl (run_move hS rfl) fun a hS => st_v hS rfl rfl (run_build (pv := [(0, .int .i64 _), (1, .int .i64 _)]) (fun W => bd34_0_1 _ _ W) hS rfl) fun a hS => st_v hS rfl rfl (run_test hS rfl rfl (fun W => eqN34 _ _ _ _ _ _ W)) fun a hS => wl_nil ?_
              refine st_cond hS rfl (fun hc20 => ?_) (fun hc20 => ?_)
              · skip
                try simp only [decide_eq_true_eq, decide_eq_false_iff_not, Bool.not_eq_true', Bool.not_eq_false', bne_iff_ne, beq_iff_eq, bne_eq_false_iff_eq, beq_eq_false_iff_ne, ne_eq, Int.not_le, Int.not_lt, ge_iff_le, gt_iff_lt] at hc20
                rw [hV, e] at hc20
                simp [sumOf] at hc20
              · skip
                try simp only [decide_eq_true_eq, decide_eq_false_iff_not, Bool.not_eq_true', Bool.not_eq_false', bne_iff_ne, beq_iff_eq, bne_eq_false_iff_eq, beq_eq_false_iff_ne, ne_eq, Int.not_le, Int.not_lt, ge_iff_le, gt_iff_lt] at hc20
                
                refine wpIn_skip ?_
                refine wpIn_seq ?_
                refine wpIn_region_lit ?_
                refine st_v hS rfl rfl (run_move hS rfl) fun a hS => st_v hS rfl rfl (run_len_slice Try.underlying82 hS rfl) fun a hS => st_v hS rfl rfl (run_div (t := (((dr.length / 2) : Nat) : Int)) hS rfl rfl (by omega) (by rw [Int.tdiv_eq_ediv_of_nonneg (by omega)]; omega) (by omega)) fun a hS => st_v hS rfl rfl (run_assign hS rfl) fun a hS => wl_nil ?_
                refine wpIn_seq ?_
                have hS := hS.sub (κ' := [(10, _), (8, _), (0, _), (1, _), (2, _), (3, _), (4, _), (7, _), (13, _), (11, _), (12, _), (20, _)]) (Sub.cons rfl (Sub.cons rfl (Sub.cons rfl (Sub.cons rfl (Sub.cons rfl (Sub.cons rfl (Sub.cons rfl (Sub.cons rfl (Sub.cons rfl (Sub.cons rfl (Sub.cons rfl (Sub.cons rfl Sub.nil))))))))))))
                refine st_cutN (fun b => [(22, .int .i64 (descP r A ((dr.drop 0).take ((dr.length / 2) - 0)))), (23, .int .i64 (descE r A ((dr.drop 0).take ((dr.length / 2) - 0)))), (21, .pointer (some ⟨b, 0, none⟩))]) (fun b => [⟨b, spanC (descV r A ((dr.drop 0).take ((dr.length / 2) - 0))), 34⟩]) hS ?_ ?_
                · skip
                  refine anyh_start (by kernel_rfl) [true, true, true, true] hS fun W hS => ?_
                  refine anyh_take (i := 0) [true, true, true, true] hS (fun _ h => h) rfl rfl (by kernel_rfl) (by kernel_rfl) (by kernel_rfl) rfl rfl (fun W' hS => run_load_all (i := 1) Try.isAgg27 Try.sizeOf27 hS rfl rfl rfl) fun a hS => ?_
                  refine anyh_take (i := 1) [true, true, true, true] hS (fun _ h => h) rfl rfl (by kernel_rfl) (by kernel_rfl) (by kernel_rfl) rfl rfl (fun W' hS => run_load_all (i := 2) Try.isAgg36 Try.sizeOf36 hS rfl rfl rfl) fun a hS => ?_
                  refine anyh_take (i := 3) [true, true, true, true] hS (fun _ h => h) rfl rfl (by kernel_rfl) (by kernel_rfl) (by kernel_rfl) rfl rfl (fun W' hS => run_move hS rfl) fun a hS => ?_
                  refine anyh_take (i := 4) [true, true, true, true] hS (fun _ h => h) rfl rfl (by kernel_rfl) (by kernel_rfl) (by kernel_rfl) rfl rfl (fun W' hS => run_move hS rfl) fun a hS => ?_
                  have hC5 := (Hdr _ (Below.refl _ _)).1
                  have hle5 : 0 ≤ (dr.length / 2) ∧ (dr.length / 2) ≤ dr.length := by omega
                  refine anyh_take (i := 5) [true, true, true, true] hS (fun _ h => h) rfl rfl (by kernel_rfl) (by kernel_rfl) (by kernel_rfl) rfl rfl (fun W' hS => run_partH (hi' := (dr.length / 2)) (L := (((dr.drop 0).take ((dr.length / 2) - 0))).length) Try.underlying82 Try.sizeOf88 hS rfl rfl (by omega) (Nat.le_trans hle5.2 hC5) (by simp <;> omega)) fun a hS => ?_
                  refine anyh_go (rs := [2, 12]) (by kernel_rfl) (by simp) ⟨⟨_, rfl, ?_⟩, ⟨_, rfl, ?_⟩, trivial⟩
                  · skip
                    refine st_buildSlice (pv := []) (fun W => bs82_0_ W) hS rfl rfl rfl fun W a b11 hS => wl_nil ?_
                    refine anyh_next [false, true, true, true, true] hS (fun _ h => h) rfl ?_
                    refine anyh_go (rs := [6, 12]) (by kernel_rfl) (by simp) ⟨⟨_, rfl, ?_⟩, ⟨_, rfl, ?_⟩, trivial⟩
                    · skip
                      refine st_app0 rfl (by decide) Try.underlying82 (AI.of ai88) Try.underlying82 drop_one ((fun W hC => (Hdr W hC).part hle5.1 hle5.2) _ hS.below) (by first | omega | (simp; omega)) hS (i := 0) rfl rfl rfl rfl rfl fun v W a hR hB hlt hS => ?_
                      
                      obtain ⟨s6, rfl, hs6⟩ := hR
                      have hS := hS.moreSl hlt hs6
                      refine wl_nil ?_
                      refine anyh_next [false, true, true, true, true] hS (fun _ h => h.1) rfl ?_
                      refine anyh_go (rs := [7, 12]) (by kernel_rfl) (by simp) ⟨⟨_, rfl, ?_⟩, ⟨_, rfl, ?_⟩, trivial⟩
                      · skip
                        refine st_call (rotor_Descent V0 r A s6 ((dr.drop 0).take ((dr.length / 2) - 0)) ((fun _ h => h) _ hS.now.1.2) ((fun _ h => h) _ hS.now.2)) Try.call45 hS rfl rfl rfl fun v W a hR hB hlt hS => ?_
                        subst hR
                        refine wl_nil ?_
                        refine anyh_next [false, true, true, true, true] hS (fun _ h => h.1) rfl ?_
                        refine anyh_take (i := 8) [false, true, true, true, true] hS (fun _ h => h.1) rfl rfl (by kernel_rfl) (by kernel_rfl) (by kernel_rfl) rfl rfl (fun W' hS => run_move hS rfl) fun a hS => ?_
                        refine anyh_take (i := 9) [false, true, true, true, true] hS (fun _ h => h.1) rfl rfl (by kernel_rfl) (by kernel_rfl) (by kernel_rfl) rfl rfl (fun W' hS => run_extract hS rfl rfl) fun a hS => ?_
                        refine anyh_take (i := 10) [false, true, true, true, true] hS (fun _ h => h.1) rfl rfl (by kernel_rfl) (by kernel_rfl) (by kernel_rfl) rfl rfl (fun W' hS => run_extract hS rfl rfl) fun a hS => ?_
                        refine anyh_take (i := 11) [false, true, true, true, true] hS (fun _ h => h.1) rfl rfl (by kernel_rfl) (by kernel_rfl) (by kernel_rfl) rfl rfl (fun W' hS => run_extract hS rfl rfl) fun a hS => ?_
                        refine anyh_go (rs := [12]) (by kernel_rfl) (by simp) ⟨⟨_, rfl, ?_⟩, trivial⟩
                        refine st_alloc_agg Try.zeroValue34 hS rfl rfl fun W a b12 hS => wl_nil ?_
                        refine anyh_next [false, false, true, true, true, true] hS (fun _ h => h.1) rfl ?_
                        refine anyh_go (rs := [13]) (by kernel_rfl) (by simp) ⟨⟨_, rfl, ?_⟩, trivial⟩
                        refine st_store (i := 0) Try.sizeOf34 hS rfl rfl rfl rfl rfl rfl rfl rfl rfl fun W a hS => wl_nil ?_
                        refine anyh_next [false, false, true, true, true, true] hS (fun _ h => h.1) rfl ?_
                        refine anyh_take (i := 14) [false, false, true, true, true, true] hS (fun _ h => h.1) rfl rfl (by kernel_rfl) (by kernel_rfl) (by kernel_rfl) rfl rfl (fun W' hS => run_assign hS rfl) fun a hS => ?_
                        refine anyh_take (i := 15) [false, false, true, true, true, true] hS (fun _ h => h.1) rfl rfl (by kernel_rfl) (by kernel_rfl) (by kernel_rfl) rfl rfl (fun W' hS => run_assign hS rfl) fun a hS => ?_
                        refine anyh_done (by kernel_rfl) ?_ _
                        refine cut_end ⟨b12, ?_⟩
                        dsimp only [List.cons_append, List.nil_append]
                        exact ((hS.sub (Sub.cons rfl (Sub.cons rfl (Sub.cons rfl (Sub.cons rfl (Sub.cons rfl (Sub.cons rfl (Sub.cons rfl (Sub.cons rfl (Sub.cons rfl (Sub.cons rfl (Sub.cons rfl (Sub.cons rfl (Sub.cons rfl (Sub.cons rfl (Sub.cons rfl Sub.nil)))))))))))))))).drop (List.Sublist.cons_cons _ (List.Sublist.cons _ (List.Sublist.refl _)))).less (fun _ h => h.1)
                      · skip
                        refine st_alloc_agg Try.zeroValue34 hS rfl rfl fun W a b13 hS => wl_nil ?_
                        refine anyh_next [false, false, true, true, true, true] hS (fun _ h => h.1) rfl ?_
                        refine anyh_go (rs := [7]) (by kernel_rfl) (by simp) ⟨⟨_, rfl, ?_⟩, trivial⟩
                        refine st_call (rotor_Descent V0 r A s6 ((dr.drop 0).take ((dr.length / 2) - 0)) ((fun _ h => h) _ hS.now.1.2) ((fun _ h => h) _ hS.now.2)) Try.call45 hS rfl rfl rfl fun v W a hR hB hlt hS => ?_
                        subst hR
                        refine wl_nil ?_
                        refine anyh_next [false, false, true, true, true, true] hS (fun _ h => h.1) rfl ?_
                        refine anyh_take (i := 8) [false, false, true, true, true, true] hS (fun _ h => h.1) rfl rfl (by kernel_rfl) (by kernel_rfl) (by kernel_rfl) rfl rfl (fun W' hS => run_move hS rfl) fun a hS => ?_
                        refine anyh_take (i := 9) [false, false, true, true, true, true] hS (fun _ h => h.1) rfl rfl (by kernel_rfl) (by kernel_rfl) (by kernel_rfl) rfl rfl (fun W' hS => run_extract hS rfl rfl) fun a hS => ?_
                        refine anyh_take (i := 10) [false, false, true, true, true, true] hS (fun _ h => h.1) rfl rfl (by kernel_rfl) (by kernel_rfl) (by kernel_rfl) rfl rfl (fun W' hS => run_extract hS rfl rfl) fun a hS => ?_
                        refine anyh_take (i := 11) [false, false, true, true, true, true] hS (fun _ h => h.1) rfl rfl (by kernel_rfl) (by kernel_rfl) (by kernel_rfl) rfl rfl (fun W' hS => run_extract hS rfl rfl) fun a hS => ?_
                        refine anyh_go (rs := [13]) (by kernel_rfl) (by simp) ⟨⟨_, rfl, ?_⟩, trivial⟩
                        refine st_store (i := 0) Try.sizeOf34 hS rfl rfl rfl rfl rfl rfl rfl rfl rfl fun W a hS => wl_nil ?_
                        refine anyh_next [false, false, true, true, true, true] hS (fun _ h => h.1) rfl ?_
                        refine anyh_take (i := 14) [false, false, true, true, true, true] hS (fun _ h => h.1) rfl rfl (by kernel_rfl) (by kernel_rfl) (by kernel_rfl) rfl rfl (fun W' hS => run_assign hS rfl) fun a hS => ?_
                        refine anyh_take (i := 15) [false, false, true, true, true, true] hS (fun _ h => h.1) rfl rfl (by kernel_rfl) (by kernel_rfl) (by kernel_rfl) rfl rfl (fun W' hS => run_assign hS rfl) fun a hS => ?_
                        refine anyh_done (by kernel_rfl) ?_ _
                        refine cut_end ⟨b13, ?_⟩
                        dsimp only [List.cons_append, List.nil_append]
                        exact ((hS.sub (Sub.cons rfl (Sub.cons rfl (Sub.cons rfl (Sub.cons rfl (Sub.cons rfl (Sub.cons rfl (Sub.cons rfl (Sub.cons rfl (Sub.cons rfl (Sub.cons rfl (Sub.cons rfl (Sub.cons rfl (Sub.cons rfl (Sub.cons rfl (Sub.cons rfl Sub.nil)))))))))))))))).drop (List.Sublist.cons_cons _ (List.Sublist.cons _ (List.Sublist.refl _)))).less (fun _ h => h.1)
                    · skip
                      refine st_alloc_agg Try.zeroValue34 hS rfl rfl fun W a b14 hS => wl_nil ?_
                      refine anyh_next [false, false, true, true, true, true] hS (fun _ h => h) rfl ?_
                      refine anyh_go (rs := [6]) (by kernel_rfl) (by simp) ⟨⟨_, rfl, ?_⟩, trivial⟩
                      refine st_app0 rfl (by decide) Try.underlying82 (AI.of ai88) Try.underlying82 drop_one ((fun W hC => (Hdr W hC).part hle5.1 hle5.2) _ hS.below) (by first | omega | (simp; omega)) hS (i := 1) rfl rfl rfl rfl rfl fun v W a hR hB hlt hS => ?_
                      
                      obtain ⟨s7, rfl, hs7⟩ := hR
                      have hS := hS.moreSl hlt hs7
                      refine wl_nil ?_
                      refine anyh_next [false, false, true, true, true, true] hS (fun _ h => h.1) rfl ?_
                      refine anyh_go (rs := [7]) (by kernel_rfl) (by simp) ⟨⟨_, rfl, ?_⟩, trivial⟩
                      refine st_call (rotor_Descent V0 r A s7 ((dr.drop 0).take ((dr.length / 2) - 0)) ((fun _ h => h) _ hS.now.1.2) ((fun _ h => h) _ hS.now.2)) Try.call45 hS rfl rfl rfl fun v W a hR hB hlt hS => ?_
                      subst hR
                      refine wl_nil ?_
                      refine anyh_next [false, false, true, true, true, true] hS (fun _ h => h.1) rfl ?_
                      refine anyh_take (i := 8) [false, false, true, true, true, true] hS (fun _ h => h.1) rfl rfl (by kernel_rfl) (by kernel_rfl) (by kernel_rfl) rfl rfl (fun W' hS => run_move hS rfl) fun a hS => ?_
                      refine anyh_take (i := 9) [false, false, true, true, true, true] hS (fun _ h => h.1) rfl rfl (by kernel_rfl) (by kernel_rfl) (by kernel_rfl) rfl rfl (fun W' hS => run_extract hS rfl rfl) fun a hS => ?_
                      refine anyh_take (i := 10) [false, false, true, true, true, true] hS (fun _ h => h.1) rfl rfl (by kernel_rfl) (by kernel_rfl) (by kernel_rfl) rfl rfl (fun W' hS => run_extract hS rfl rfl) fun a hS => ?_
                      refine anyh_take (i := 11) [false, false, true, true, true, true] hS (fun _ h => h.1) rfl rfl (by kernel_rfl) (by kernel_rfl) (by kernel_rfl) rfl rfl (fun W' hS => run_extract hS rfl rfl) fun a hS => ?_
                      refine anyh_go (rs := [13]) (by kernel_rfl) (by simp) ⟨⟨_, rfl, ?_⟩, trivial⟩
                      refine st_store (i := 0) Try.sizeOf34 hS rfl rfl rfl rfl rfl rfl rfl rfl rfl fun W a hS => wl_nil ?_
                      refine anyh_next [false, false, true, true, true, true] hS (fun _ h => h.1) rfl ?_
                      refine anyh_take (i := 14) [false, false, true, true, true, true] hS (fun _ h => h.1) rfl rfl (by kernel_rfl) (by kernel_rfl) (by kernel_rfl) rfl rfl (fun W' hS => run_assign hS rfl) fun a hS => ?_
                      refine anyh_take (i := 15) [false, false, true, true, true, true] hS (fun _ h => h.1) rfl rfl (by kernel_rfl) (by kernel_rfl) (by kernel_rfl) rfl rfl (fun W' hS => run_assign hS rfl) fun a hS => ?_
                      refine anyh_done (by kernel_rfl) ?_ _
                      refine cut_end ⟨b14, ?_⟩
                      dsimp only [List.cons_append, List.nil_append]
                      exact ((hS.sub (Sub.cons rfl (Sub.cons rfl (Sub.cons rfl (Sub.cons rfl (Sub.cons rfl (Sub.cons rfl (Sub.cons rfl (Sub.cons rfl (Sub.cons rfl (Sub.cons rfl (Sub.cons rfl (Sub.cons rfl (Sub.cons rfl (Sub.cons rfl (Sub.cons rfl Sub.nil)))))))))))))))).drop (List.Sublist.cons_cons _ (List.Sublist.cons _ (List.Sublist.refl _)))).less (fun _ h => h.1)
                  · skip
                    refine st_alloc_agg Try.zeroValue34 hS rfl rfl fun W a b15 hS => wl_nil ?_
                    refine anyh_next [false, true, true, true, true] hS (fun _ h => h) rfl ?_
                    refine anyh_go (rs := [2]) (by kernel_rfl) (by simp) ⟨⟨_, rfl, ?_⟩, trivial⟩
                    refine st_buildSlice (pv := []) (fun W => bs82_0_ W) hS rfl rfl rfl fun W a b16 hS => wl_nil ?_
                    refine anyh_next [false, false, true, true, true, true] hS (fun _ h => h) rfl ?_
                    refine anyh_go (rs := [6]) (by kernel_rfl) (by simp) ⟨⟨_, rfl, ?_⟩, trivial⟩
                    refine st_app0 rfl (by decide) Try.underlying82 (AI.of ai88) Try.underlying82 drop_one ((fun W hC => (Hdr W hC).part hle5.1 hle5.2) _ hS.below) (by first | omega | (simp; omega)) hS (i := 0) rfl rfl rfl rfl rfl fun v W a hR hB hlt hS => ?_
                    
                    obtain ⟨s8, rfl, hs8⟩ := hR
                    have hS := hS.moreSl hlt hs8
                    refine wl_nil ?_
                    refine anyh_next [false, false, true, true, true, true] hS (fun _ h => h.1) rfl ?_
                    refine anyh_go (rs := [7]) (by kernel_rfl) (by simp) ⟨⟨_, rfl, ?_⟩, trivial⟩
                    refine st_call (rotor_Descent V0 r A s8 ((dr.drop 0).take ((dr.length / 2) - 0)) ((fun _ h => h) _ hS.now.1.2) ((fun _ h => h) _ hS.now.2)) Try.call45 hS rfl rfl rfl fun v W a hR hB hlt hS => ?_
                    subst hR
                    refine wl_nil ?_
                    refine anyh_next [false, false, true, true, true, true] hS (fun _ h => h.1) rfl ?_
                    refine anyh_take (i := 8) [false, false, true, true, true, true] hS (fun _ h => h.1) rfl rfl (by kernel_rfl) (by kernel_rfl) (by kernel_rfl) rfl rfl (fun W' hS => run_move hS rfl) fun a hS => ?_
                    refine anyh_take (i := 9) [false, false, true, true, true, true] hS (fun _ h => h.1) rfl rfl (by kernel_rfl) (by kernel_rfl) (by kernel_rfl) rfl rfl (fun W' hS => run_extract hS rfl rfl) fun a hS => ?_
                    refine anyh_take (i := 10) [false, false, true, true, true, true] hS (fun _ h => h.1) rfl rfl (by kernel_rfl) (by kernel_rfl) (by kernel_rfl) rfl rfl (fun W' hS => run_extract hS rfl rfl) fun a hS => ?_
                    refine anyh_take (i := 11) [false, false, true, true, true, true] hS (fun _ h => h.1) rfl rfl (by kernel_rfl) (by kernel_rfl) (by kernel_rfl) rfl rfl (fun W' hS => run_extract hS rfl rfl) fun a hS => ?_
                    refine anyh_go (rs := [13]) (by kernel_rfl) (by simp) ⟨⟨_, rfl, ?_⟩, trivial⟩
                    refine st_store (i := 1) Try.sizeOf34 hS rfl rfl rfl rfl rfl rfl rfl rfl rfl fun W a hS => wl_nil ?_
                    refine anyh_next [false, false, true, true, true, true] hS (fun _ h => h.1) rfl ?_
                    refine anyh_take (i := 14) [false, false, true, true, true, true] hS (fun _ h => h.1) rfl rfl (by kernel_rfl) (by kernel_rfl) (by kernel_rfl) rfl rfl (fun W' hS => run_assign hS rfl) fun a hS => ?_
                    refine anyh_take (i := 15) [false, false, true, true, true, true] hS (fun _ h => h.1) rfl rfl (by kernel_rfl) (by kernel_rfl) (by kernel_rfl) rfl rfl (fun W' hS => run_assign hS rfl) fun a hS => ?_
                    refine anyh_done (by kernel_rfl) ?_ _
                    refine cut_end ⟨b15, ?_⟩
                    dsimp only [List.cons_append, List.nil_append]
                    exact ((hS.sub (Sub.cons rfl (Sub.cons rfl (Sub.cons rfl (Sub.cons rfl (Sub.cons rfl (Sub.cons rfl (Sub.cons rfl (Sub.cons rfl (Sub.cons rfl (Sub.cons rfl (Sub.cons rfl (Sub.cons rfl (Sub.cons rfl (Sub.cons rfl (Sub.cons rfl Sub.nil)))))))))))))))).drop (List.Sublist.cons _ (List.Sublist.cons_cons _ (List.Sublist.refl _)))).less (fun _ h => h.1)
                · intro W a b17 hS
                  dsimp only [List.cons_append, List.nil_append] at hS
                  refine wpIn_seq ?_
                  have hS := hS.sub (κ' := [(23, _), (21, _), (10, _), (8, _), (0, _), (1, _), (2, _), (3, _), (4, _), (7, _), (13, _), (11, _), (12, _), (20, _)]) (Sub.cons rfl (Sub.cons rfl (Sub.cons rfl (Sub.cons rfl (Sub.cons rfl (Sub.cons rfl (Sub.cons rfl (Sub.cons rfl (Sub.cons rfl (Sub.cons rfl (Sub.cons rfl (Sub.cons rfl (Sub.cons rfl (Sub.cons rfl Sub.nil))))))))))))))
                  refine st_cutN (fun b => [(25, .int .i64 (descP r A ((dr.drop (dr.length / 2)).take (dr.length - (dr.length / 2))))), (26, .int .i64 (descE r A ((dr.drop (dr.length / 2)).take (dr.length - (dr.length / 2))))), (24, .pointer (some ⟨b, 0, none⟩))]) (fun b => [⟨b, spanC (descV r A ((dr.drop (dr.length / 2)).take (dr.length - (dr.length / 2)))), 34⟩]) hS ?_ ?_
                  · skip
                    refine anyh_start (by kernel_rfl) [true, true, true, true, true] hS fun W hS => ?_
                    refine anyh_take (i := 0) [true, true, true, true, true] hS (fun _ h => h) rfl rfl (by kernel_rfl) (by kernel_rfl) (by kernel_rfl) rfl rfl (fun W' hS => run_load_all (i := 2) Try.isAgg27 Try.sizeOf27 hS rfl rfl rfl) fun a hS => ?_
                    refine anyh_take (i := 1) [true, true, true, true, true] hS (fun _ h => h) rfl rfl (by kernel_rfl) (by kernel_rfl) (by kernel_rfl) rfl rfl (fun W' hS => run_load_all (i := 3) Try.isAgg36 Try.sizeOf36 hS rfl rfl rfl) fun a hS => ?_
                    refine anyh_take (i := 3) [true, true, true, true, true] hS (fun _ h => h) rfl rfl (by kernel_rfl) (by kernel_rfl) (by kernel_rfl) rfl rfl (fun W' hS => run_move hS rfl) fun a hS => ?_
                    refine anyh_take (i := 4) [true, true, true, true, true] hS (fun _ h => h) rfl rfl (by kernel_rfl) (by kernel_rfl) (by kernel_rfl) rfl rfl (fun W' hS => run_move hS rfl) fun a hS => ?_
                    have hC9 := (Hdr _ (Below.refl _ _)).1
                    have hle9 : (dr.length / 2) ≤ dr.length ∧ dr.length ≤ dr.length := by omega
                    refine anyh_take (i := 5) [true, true, true, true, true] hS (fun _ h => h) rfl rfl (by kernel_rfl) (by kernel_rfl) (by kernel_rfl) rfl rfl (fun W' hS => run_partL (lo' := (dr.length / 2)) (L := (((dr.drop (dr.length / 2)).take (dr.length - (dr.length / 2)))).length) Try.underlying82 Try.sizeOf88 hS rfl rfl (by omega) hle9.1 hC9 (by simp <;> omega)) fun a hS => ?_
                    refine anyh_go (rs := [2, 12]) (by kernel_rfl) (by simp) ⟨⟨_, rfl, ?_⟩, ⟨_, rfl, ?_⟩, trivial⟩
                    · skip
                      refine st_buildSlice (pv := []) (fun W => bs82_0_ W) hS rfl rfl rfl fun W a b18 hS => wl_nil ?_
                      refine anyh_next [false, true, true, true, true, true] hS (fun _ h => h) rfl ?_
                      refine anyh_go (rs := [6, 12]) (by kernel_rfl) (by simp) ⟨⟨_, rfl, ?_⟩, ⟨_, rfl, ?_⟩, trivial⟩
                      · skip
                        refine st_app0 rfl (by decide) Try.underlying82 (AI.of ai88) Try.underlying82 drop_one ((fun W hC => (Hdr W hC).part hle9.1 hle9.2) _ hS.below) (by first | omega | (simp; omega)) hS (i := 0) rfl rfl rfl rfl rfl fun v W a hR hB hlt hS => ?_
                        
                        obtain ⟨s10, rfl, hs10⟩ := hR
                        have hS := hS.moreSl hlt hs10
                        refine wl_nil ?_
                        refine anyh_next [false, true, true, true, true, true] hS (fun _ h => h.1) rfl ?_
                        refine anyh_go (rs := [7, 12]) (by kernel_rfl) (by simp) ⟨⟨_, rfl, ?_⟩, ⟨_, rfl, ?_⟩, trivial⟩
                        · skip
                          refine st_call (rotor_Descent V0 r A s10 ((dr.drop (dr.length / 2)).take (dr.length - (dr.length / 2))) ((fun _ h => h) _ hS.now.1.2) ((fun _ h => h) _ hS.now.2)) Try.call45 hS rfl rfl rfl fun v W a hR hB hlt hS => ?_
                          subst hR
                          refine wl_nil ?_
                          refine anyh_next [false, true, true, true, true, true] hS (fun _ h => h.1) rfl ?_
                          refine anyh_take (i := 8) [false, true, true, true, true, true] hS (fun _ h => h.1) rfl rfl (by kernel_rfl) (by kernel_rfl) (by kernel_rfl) rfl rfl (fun W' hS => run_move hS rfl) fun a hS => ?_
                          refine anyh_take (i := 9) [false, true, true, true, true, true] hS (fun _ h => h.1) rfl rfl (by kernel_rfl) (by kernel_rfl) (by kernel_rfl) rfl rfl (fun W' hS => run_extract hS rfl rfl) fun a hS => ?_
                          refine anyh_take (i := 10) [false, true, true, true, true, true] hS (fun _ h => h.1) rfl rfl (by kernel_rfl) (by kernel_rfl) (by kernel_rfl) rfl rfl (fun W' hS => run_extract hS rfl rfl) fun a hS => ?_
                          refine anyh_take (i := 11) [false, true, true, true, true, true] hS (fun _ h => h.1) rfl rfl (by kernel_rfl) (by kernel_rfl) (by kernel_rfl) rfl rfl (fun W' hS => run_extract hS rfl rfl) fun a hS => ?_
                          refine anyh_go (rs := [12]) (by kernel_rfl) (by simp) ⟨⟨_, rfl, ?_⟩, trivial⟩
                          refine st_alloc_agg Try.zeroValue34 hS rfl rfl fun W a b19 hS => wl_nil ?_
                          refine anyh_next [false, false, true, true, true, true, true] hS (fun _ h => h.1) rfl ?_
                          refine anyh_go (rs := [13]) (by kernel_rfl) (by simp) ⟨⟨_, rfl, ?_⟩, trivial⟩
                          refine st_store (i := 0) Try.sizeOf34 hS rfl rfl rfl rfl rfl rfl rfl rfl rfl fun W a hS => wl_nil ?_
                          refine anyh_next [false, false, true, true, true, true, true] hS (fun _ h => h.1) rfl ?_
                          refine anyh_take (i := 14) [false, false, true, true, true, true, true] hS (fun _ h => h.1) rfl rfl (by kernel_rfl) (by kernel_rfl) (by kernel_rfl) rfl rfl (fun W' hS => run_assign hS rfl) fun a hS => ?_
                          refine anyh_take (i := 15) [false, false, true, true, true, true, true] hS (fun _ h => h.1) rfl rfl (by kernel_rfl) (by kernel_rfl) (by kernel_rfl) rfl rfl (fun W' hS => run_assign hS rfl) fun a hS => ?_
                          refine anyh_done (by kernel_rfl) ?_ _
                          refine cut_end ⟨b19, ?_⟩
                          dsimp only [List.cons_append, List.nil_append]
                          exact ((hS.sub (Sub.cons rfl (Sub.cons rfl (Sub.cons rfl (Sub.cons rfl (Sub.cons rfl (Sub.cons rfl (Sub.cons rfl (Sub.cons rfl (Sub.cons rfl (Sub.cons rfl (Sub.cons rfl (Sub.cons rfl (Sub.cons rfl (Sub.cons rfl (Sub.cons rfl (Sub.cons rfl (Sub.cons rfl Sub.nil)))))))))))))))))).drop (List.Sublist.cons_cons _ (List.Sublist.cons _ (List.Sublist.refl _)))).less (fun _ h => h.1)
                        · skip
                          refine st_alloc_agg Try.zeroValue34 hS rfl rfl fun W a b20 hS => wl_nil ?_
                          refine anyh_next [false, false, true, true, true, true, true] hS (fun _ h => h.1) rfl ?_
                          refine anyh_go (rs := [7]) (by kernel_rfl) (by simp) ⟨⟨_, rfl, ?_⟩, trivial⟩
                          refine st_call (rotor_Descent V0 r A s10 ((dr.drop (dr.length / 2)).take (dr.length - (dr.length / 2))) ((fun _ h => h) _ hS.now.1.2) ((fun _ h => h) _ hS.now.2)) Try.call45 hS rfl rfl rfl fun v W a hR hB hlt hS => ?_
                          subst hR
                          refine wl_nil ?_
                          refine anyh_next [false, false, true, true, true, true, true] hS (fun _ h => h.1) rfl ?_
                          refine anyh_take (i := 8) [false, false, true, true, true, true, true] hS (fun _ h => h.1) rfl rfl (by kernel_rfl) (by kernel_rfl) (by kernel_rfl) rfl rfl (fun W' hS => run_move hS rfl) fun a hS => ?_
                          refine anyh_take (i := 9) [false, false, true, true, true, true, true] hS (fun _ h => h.1) rfl rfl (by kernel_rfl) (by kernel_rfl) (by kernel_rfl) rfl rfl (fun W' hS => run_extract hS rfl rfl) fun a hS => ?_
                          refine anyh_take (i := 10) [false, false, true, true, true, true, true] hS (fun _ h => h.1) rfl rfl (by kernel_rfl) (by kernel_rfl) (by kernel_rfl) rfl rfl (fun W' hS => run_extract hS rfl rfl) fun a hS => ?_
                          refine anyh_take (i := 11) [false, false, true, true, true, true, true] hS (fun _ h => h.1) rfl rfl (by kernel_rfl) (by kernel_rfl) (by kernel_rfl) rfl rfl (fun W' hS => run_extract hS rfl rfl) fun a hS => ?_
                          refine anyh_go (rs := [13]) (by kernel_rfl) (by simp) ⟨⟨_, rfl, ?_⟩, trivial⟩
                          refine st_store (i := 0) Try.sizeOf34 hS rfl rfl rfl rfl rfl rfl rfl rfl rfl fun W a hS => wl_nil ?_
                          refine anyh_next [false, false, true, true, true, true, true] hS (fun _ h => h.1) rfl ?_
                          refine anyh_take (i := 14) [false, false, true, true, true, true, true] hS (fun _ h => h.1) rfl rfl (by kernel_rfl) (by kernel_rfl) (by kernel_rfl) rfl rfl (fun W' hS => run_assign hS rfl) fun a hS => ?_
                          refine anyh_take (i := 15) [false, false, true, true, true, true, true] hS (fun _ h => h.1) rfl rfl (by kernel_rfl) (by kernel_rfl) (by kernel_rfl) rfl rfl (fun W' hS => run_assign hS rfl) fun a hS => ?_
                          refine anyh_done (by kernel_rfl) ?_ _
                          refine cut_end ⟨b20, ?_⟩
                          dsimp only [List.cons_append, List.nil_append]
                          exact ((hS.sub (Sub.cons rfl (Sub.cons rfl (Sub.cons rfl (Sub.cons rfl (Sub.cons rfl (Sub.cons rfl (Sub.cons rfl (Sub.cons rfl (Sub.cons rfl (Sub.cons rfl (Sub.cons rfl (Sub.cons rfl (Sub.cons rfl (Sub.cons rfl (Sub.cons rfl (Sub.cons rfl (Sub.cons rfl Sub.nil)))))))))))))))))).drop (List.Sublist.cons_cons _ (List.Sublist.cons _ (List.Sublist.refl _)))).less (fun _ h => h.1)
                      · skip
                        refine st_alloc_agg Try.zeroValue34 hS rfl rfl fun W a b21 hS => wl_nil ?_
                        refine anyh_next [false, false, true, true, true, true, true] hS (fun _ h => h) rfl ?_
                        refine anyh_go (rs := [6]) (by kernel_rfl) (by simp) ⟨⟨_, rfl, ?_⟩, trivial⟩
                        refine st_app0 rfl (by decide) Try.underlying82 (AI.of ai88) Try.underlying82 drop_one ((fun W hC => (Hdr W hC).part hle9.1 hle9.2) _ hS.below) (by first | omega | (simp; omega)) hS (i := 1) rfl rfl rfl rfl rfl fun v W a hR hB hlt hS => ?_
                        
                        obtain ⟨s11, rfl, hs11⟩ := hR
                        have hS := hS.moreSl hlt hs11
                        refine wl_nil ?_
                        refine anyh_next [false, false, true, true, true, true, true] hS (fun _ h => h.1) rfl ?_
                        refine anyh_go (rs := [7]) (by kernel_rfl) (by simp) ⟨⟨_, rfl, ?_⟩, trivial⟩
                        refine st_call (rotor_Descent V0 r A s11 ((dr.drop (dr.length / 2)).take (dr.length - (dr.length / 2))) ((fun _ h => h) _ hS.now.1.2) ((fun _ h => h) _ hS.now.2)) Try.call45 hS rfl rfl rfl fun v W a hR hB hlt hS => ?_
                        subst hR
                        refine wl_nil ?_
                        refine anyh_next [false, false, true, true, true, true, true] hS (fun _ h => h.1) rfl ?_
                        refine anyh_take (i := 8) [false, false, true, true, true, true, true] hS (fun _ h => h.1) rfl rfl (by kernel_rfl) (by kernel_rfl) (by kernel_rfl) rfl rfl (fun W' hS => run_move hS rfl) fun a hS => ?_
                        refine anyh_take (i := 9) [false, false, true, true, true, true, true] hS (fun _ h => h.1) rfl rfl (by kernel_rfl) (by kernel_rfl) (by kernel_rfl) rfl rfl (fun W' hS => run_extract hS rfl rfl) fun a hS => ?_
                        refine anyh_take (i := 10) [false, false, true, true, true, true, true] hS (fun _ h => h.1) rfl rfl (by kernel_rfl) (by kernel_rfl) (by kernel_rfl) rfl rfl (fun W' hS => run_extract hS rfl rfl) fun a hS => ?_
                        refine anyh_take (i := 11) [false, false, true, true, true, true, true] hS (fun _ h => h.1) rfl rfl (by kernel_rfl) (by kernel_rfl) (by kernel_rfl) rfl rfl (fun W' hS => run_extract hS rfl rfl) fun a hS => ?_
                        refine anyh_go (rs := [13]) (by kernel_rfl) (by simp) ⟨⟨_, rfl, ?_⟩, trivial⟩
                        refine st_store (i := 0) Try.sizeOf34 hS rfl rfl rfl rfl rfl rfl rfl rfl rfl fun W a hS => wl_nil ?_
                        refine anyh_next [false, false, true, true, true, true, true] hS (fun _ h => h.1) rfl ?_
                        refine anyh_take (i := 14) [false, false, true, true, true, true, true] hS (fun _ h => h.1) rfl rfl (by kernel_rfl) (by kernel_rfl) (by kernel_rfl) rfl rfl (fun W' hS => run_assign hS rfl) fun a hS => ?_
                        refine anyh_take (i := 15) [false, false, true, true, true, true, true] hS (fun _ h => h.1) rfl rfl (by kernel_rfl) (by kernel_rfl) (by kernel_rfl) rfl rfl (fun W' hS => run_assign hS rfl) fun a hS => ?_
                        refine anyh_done (by kernel_rfl) ?_ _
                        refine cut_end ⟨b21, ?_⟩
                        dsimp only [List.cons_append, List.nil_append]
                        exact ((hS.sub (Sub.cons rfl (Sub.cons rfl (Sub.cons rfl (Sub.cons rfl (Sub.cons rfl (Sub.cons rfl (Sub.cons rfl (Sub.cons rfl (Sub.cons rfl (Sub.cons rfl (Sub.cons rfl (Sub.cons rfl (Sub.cons rfl (Sub.cons rfl (Sub.cons rfl (Sub.cons rfl (Sub.cons rfl Sub.nil)))))))))))))))))).drop (List.Sublist.cons_cons _ (List.Sublist.cons _ (List.Sublist.refl _)))).less (fun _ h => h.1)
                    · skip
                      refine st_alloc_agg Try.zeroValue34 hS rfl rfl fun W a b22 hS => wl_nil ?_
                      refine anyh_next [false, true, true, true, true, true] hS (fun _ h => h) rfl ?_
                      refine anyh_go (rs := [2]) (by kernel_rfl) (by simp) ⟨⟨_, rfl, ?_⟩, trivial⟩
                      refine st_buildSlice (pv := []) (fun W => bs82_0_ W) hS rfl rfl rfl fun W a b23 hS => wl_nil ?_
                      refine anyh_next [false, false, true, true, true, true, true] hS (fun _ h => h) rfl ?_
                      refine anyh_go (rs := [6]) (by kernel_rfl) (by simp) ⟨⟨_, rfl, ?_⟩, trivial⟩
                      refine st_app0 rfl (by decide) Try.underlying82 (AI.of ai88) Try.underlying82 drop_one ((fun W hC => (Hdr W hC).part hle9.1 hle9.2) _ hS.below) (by first | omega | (simp; omega)) hS (i := 0) rfl rfl rfl rfl rfl fun v W a hR hB hlt hS => ?_
                      
                      obtain ⟨s12, rfl, hs12⟩ := hR
                      have hS := hS.moreSl hlt hs12
                      refine wl_nil ?_
                      refine anyh_next [false, false, true, true, true, true, true] hS (fun _ h => h.1) rfl ?_
                      refine anyh_go (rs := [7]) (by kernel_rfl) (by simp) ⟨⟨_, rfl, ?_⟩, trivial⟩
                      refine st_call (rotor_Descent V0 r A s12 ((dr.drop (dr.length / 2)).take (dr.length - (dr.length / 2))) ((fun _ h => h) _ hS.now.1.2) ((fun _ h => h) _ hS.now.2)) Try.call45 hS rfl rfl rfl fun v W a hR hB hlt hS => ?_
                      subst hR
                      refine wl_nil ?_
                      refine anyh_next [false, false, true, true, true, true, true] hS (fun _ h => h.1) rfl ?_
                      refine anyh_take (i := 8) [false, false, true, true, true, true, true] hS (fun _ h => h.1) rfl rfl (by kernel_rfl) (by kernel_rfl) (by kernel_rfl) rfl rfl (fun W' hS => run_move hS rfl) fun a hS => ?_
                      refine anyh_take (i := 9) [false, false, true, true, true, true, true] hS (fun _ h => h.1) rfl rfl (by kernel_rfl) (by kernel_rfl) (by kernel_rfl) rfl rfl (fun W' hS => run_extract hS rfl rfl) fun a hS => ?_
                      refine anyh_take (i := 10) [false, false, true, true, true, true, true] hS (fun _ h => h.1) rfl rfl (by kernel_rfl) (by kernel_rfl) (by kernel_rfl) rfl rfl (fun W' hS => run_extract hS rfl rfl) fun a hS => ?_
                      refine anyh_take (i := 11) [false, false, true, true, true, true, true] hS (fun _ h => h.1) rfl rfl (by kernel_rfl) (by kernel_rfl) (by kernel_rfl) rfl rfl (fun W' hS => run_extract hS rfl rfl) fun a hS => ?_
                      refine anyh_go (rs := [13]) (by kernel_rfl) (by simp) ⟨⟨_, rfl, ?_⟩, trivial⟩
                      refine st_store (i := 1) Try.sizeOf34 hS rfl rfl rfl rfl rfl rfl rfl rfl rfl fun W a hS => wl_nil ?_
                      refine anyh_next [false, false, true, true, true, true, true] hS (fun _ h => h.1) rfl ?_
                      refine anyh_take (i := 14) [false, false, true, true, true, true, true] hS (fun _ h => h.1) rfl rfl (by kernel_rfl) (by kernel_rfl) (by kernel_rfl) rfl rfl (fun W' hS => run_assign hS rfl) fun a hS => ?_
                      refine anyh_take (i := 15) [false, false, true, true, true, true, true] hS (fun _ h => h.1) rfl rfl (by kernel_rfl) (by kernel_rfl) (by kernel_rfl) rfl rfl (fun W' hS => run_assign hS rfl) fun a hS => ?_
                      refine anyh_done (by kernel_rfl) ?_ _
                      refine cut_end ⟨b22, ?_⟩
                      dsimp only [List.cons_append, List.nil_append]
                      exact ((hS.sub (Sub.cons rfl (Sub.cons rfl (Sub.cons rfl (Sub.cons rfl (Sub.cons rfl (Sub.cons rfl (Sub.cons rfl (Sub.cons rfl (Sub.cons rfl (Sub.cons rfl (Sub.cons rfl (Sub.cons rfl (Sub.cons rfl (Sub.cons rfl (Sub.cons rfl (Sub.cons rfl (Sub.cons rfl Sub.nil)))))))))))))))))).drop (List.Sublist.cons _ (List.Sublist.cons_cons _ (List.Sublist.refl _)))).less (fun _ h => h.1)
                  · intro W a b24 hS
                    dsimp only [List.cons_append, List.nil_append] at hS
                    refine wpIn_seq ?_
                    refine wpIn_seq ?_
                    refine wpIn_region_lit ?_
                    refine st_v hS rfl rfl (run_move hS rfl) fun a hS => st_v hS rfl rfl (run_bin hS rfl rfl rfl) fun a hS => st_v hS rfl rfl (run_move hS rfl) fun a hS => ?_
                    refine st_split (d := 166) hS rfl (fun hc21 hS => ?_) (fun hc21 hS => ?_)
                    · skip
                      try simp only [decide_eq_true_eq, decide_eq_false_iff_not, Bool.not_eq_true', Bool.not_eq_false', bne_iff_ne, beq_iff_eq, bne_eq_false_iff_eq, beq_eq_false_iff_ne, ne_eq, Int.not_le, Int.not_lt, ge_iff_le, gt_iff_lt] at hc21
                      
                      refine st_skip hS (hS.unwanted rfl rfl rfl rfl) rfl fun a hS => st_skip hS (hS.unwanted rfl rfl rfl rfl) rfl fun a hS => st_v hS rfl rfl (run_pick_t hS rfl rfl) fun a hS => wl_nil ?_
                      refine st_cond_t hS rfl ?_
                      refine wpIn_seq ?_
                      refine wpIn_region_lit ?_
                      refine st_v hS rfl rfl (run_move hS rfl) fun a hS => st_v hS rfl rfl (run_bin hS rfl rfl rfl) fun a hS => st_v hS rfl rfl (run_move hS rfl) fun a hS => ?_
                      refine st_split (d := 172) hS rfl (fun hc22 hS => ?_) (fun hc22 hS => ?_)
                      · skip
                        try simp only [decide_eq_true_eq, decide_eq_false_iff_not, Bool.not_eq_true', Bool.not_eq_false', bne_iff_ne, beq_iff_eq, bne_eq_false_iff_eq, beq_eq_false_iff_ne, ne_eq, Int.not_le, Int.not_lt, ge_iff_le, gt_iff_lt] at hc22
                        refine st_skip hS (hS.unwanted rfl rfl rfl rfl) rfl fun a hS => st_skip hS (hS.unwanted rfl rfl rfl rfl) rfl fun a hS => st_v hS rfl rfl (run_pick_t hS rfl rfl) fun a hS => st_v hS rfl rfl (run_assign hS rfl) fun a hS => wl_nil ?_
                        refine wpIn_ret ?_
                        repeat (first | refine q_ret ?_ | refine q_block_ret ?_)
                        refine hS.done (res1 (fn := Try.f13) (r1 := .tmp 6) rfl (rv_tmp hS rfl)) ?_
                        rfl
                      · skip
                        try simp only [decide_eq_true_eq, decide_eq_false_iff_not, Bool.not_eq_true', Bool.not_eq_false', bne_iff_ne, beq_iff_eq, bne_eq_false_iff_eq, beq_eq_false_iff_ne, ne_eq, Int.not_le, Int.not_lt, ge_iff_le, gt_iff_lt] at hc22
                        exact absurd (hE1.resolve_left hc21) hc22
                    · skip
                      try simp only [decide_eq_true_eq, decide_eq_false_iff_not, Bool.not_eq_true', Bool.not_eq_false', bne_iff_ne, beq_iff_eq, bne_eq_false_iff_eq, beq_eq_false_iff_ne, ne_eq, Int.not_le, Int.not_lt, ge_iff_le, gt_iff_lt] at hc21
                      
                      refine st_v hS (hS.wanted rfl rfl rfl) rfl (run_move hS rfl) fun a hS => st_v hS (hS.wanted rfl rfl rfl) rfl (run_bin hS rfl rfl rfl) fun a hS => st_v hS rfl rfl (run_pick_f hS rfl rfl) fun a hS => wl_nil ?_
                      refine st_cond hS rfl (fun hc23 => ?_) (fun hc23 => ?_)
                      · skip
                        try simp only [decide_eq_true_eq, decide_eq_false_iff_not, Bool.not_eq_true', Bool.not_eq_false', bne_iff_ne, beq_iff_eq, bne_eq_false_iff_eq, beq_eq_false_iff_ne, ne_eq, Int.not_le, Int.not_lt, ge_iff_le, gt_iff_lt] at hc23
                        
                        refine wpIn_seq ?_
                        refine wpIn_region_lit ?_
                        refine st_v hS rfl rfl (run_move hS rfl) fun a hS => st_v hS rfl rfl (run_bin hS rfl rfl rfl) fun a hS => st_v hS rfl rfl (run_move hS rfl) fun a hS => ?_
                        refine st_split (d := 172) hS rfl (fun hc24 hS => ?_) (fun hc24 hS => ?_)
                        · skip
                          try simp only [decide_eq_true_eq, decide_eq_false_iff_not, Bool.not_eq_true', Bool.not_eq_false', bne_iff_ne, beq_iff_eq, bne_eq_false_iff_eq, beq_eq_false_iff_ne, ne_eq, Int.not_le, Int.not_lt, ge_iff_le, gt_iff_lt] at hc24
                          refine st_skip hS (hS.unwanted rfl rfl rfl rfl) rfl fun a hS => st_skip hS (hS.unwanted rfl rfl rfl rfl) rfl fun a hS => st_v hS rfl rfl (run_pick_t hS rfl rfl) fun a hS => st_v hS rfl rfl (run_assign hS rfl) fun a hS => wl_nil ?_
                          refine wpIn_ret ?_
                          repeat (first | refine q_ret ?_ | refine q_block_ret ?_)
                          refine hS.done (res1 (fn := Try.f13) (r1 := .tmp 6) rfl (rv_tmp hS rfl)) ?_
                          rfl
                        · skip
                          try simp only [decide_eq_true_eq, decide_eq_false_iff_not, Bool.not_eq_true', Bool.not_eq_false', bne_iff_ne, beq_iff_eq, bne_eq_false_iff_eq, beq_eq_false_iff_ne, ne_eq, Int.not_le, Int.not_lt, ge_iff_le, gt_iff_lt] at hc24
                          refine st_v hS (hS.wanted rfl rfl rfl) rfl (run_move hS rfl) fun a hS => st_v hS (hS.wanted rfl rfl rfl) rfl (run_bin hS rfl rfl rfl) fun a hS => st_v hS rfl rfl (run_pick_f hS rfl rfl) fun a hS => st_v hS rfl rfl (run_assign hS rfl) fun a hS => wl_nil ?_
                          refine wpIn_ret ?_
                          repeat (first | refine q_ret ?_ | refine q_block_ret ?_)
                          refine hS.done (res1 (fn := Try.f13) (r1 := .tmp 6) rfl (rv_tmp hS rfl)) ?_
                          rw [hE2.resolve_left hc23]; rfl
                      · skip
                        try simp only [decide_eq_true_eq, decide_eq_false_iff_not, Bool.not_eq_true', Bool.not_eq_false', bne_iff_ne, beq_iff_eq, bne_eq_false_iff_eq, beq_eq_false_iff_ne, ne_eq, Int.not_le, Int.not_lt, ge_iff_le, gt_iff_lt] at hc23
                        have hAP := add_parts (r := r) (a := A) (l := dr) (k := dr.length / 2) (by omega) hsok hc21 hc23
                        refine wpIn_skip ?_
                        refine wpIn_seq ?_
                        refine wpIn_region_lit ?_
                        refine st_v hS rfl rfl (run_load_all (i := 1) Try.isAgg34 Try.sizeOf34 hS rfl rfl rfl) fun a hS => st_v hS rfl rfl (run_load_all (i := 0) Try.isAgg34 Try.sizeOf34 hS rfl rfl rfl) fun a hS => st_call (spans_Add (descV r A ((dr.drop 0).take ((dr.length / 2) - 0))) (descV r A ((dr.drop (dr.length / 2)).take (dr.length - (dr.length / 2))))) Try.call51 hS rfl rfl rfl fun v W a hR hB hlt hS => ?_
                        rw [hAP.1, if_pos rfl, hAP.2, ← hV] at hR
                        subst hR
                        refine st_v hS rfl rfl (run_move hS rfl) fun a hS => st_v hS rfl rfl (run_extract hS rfl rfl) fun a hS => st_v hS rfl rfl (run_extract hS rfl rfl) fun a hS => st_alloc_agg Try.zeroValue34 hS rfl rfl fun W a b25 hS => st_store (i := 0) Try.sizeOf34 hS rfl rfl rfl rfl rfl rfl rfl rfl rfl fun W a hS => st_v hS rfl rfl (run_assign hS rfl) fun a hS => wl_nil ?_
                        refine wpIn_seq ?_
                        refine wpIn_region_lit ?_
                        refine st_v hS rfl rfl (run_move hS rfl) fun a hS => st_v hS rfl rfl (run_bin hS rfl rfl rfl) fun a hS => st_v hS rfl rfl (run_move hS rfl) fun a hS => ?_
                        refine st_split (d := 184) hS rfl (fun hc25 hS => ?_) (fun hc25 hS => ?_)
                        · skip
                          try simp only [decide_eq_true_eq, decide_eq_false_iff_not, Bool.not_eq_true', Bool.not_eq_false', bne_iff_ne, beq_iff_eq, bne_eq_false_iff_eq, beq_eq_false_iff_ne, ne_eq, Int.not_le, Int.not_lt, ge_iff_le, gt_iff_lt] at hc25
                          
                          refine st_v hS (hS.wanted rfl rfl rfl) rfl (run_load_all (i := 0) Try.isAgg34 Try.sizeOf34 hS rfl rfl rfl) fun a hS => st_v hS (hS.wanted rfl rfl rfl) rfl (run_load_all (i := 3) Try.isAgg34 Try.sizeOf34 hS rfl rfl rfl) fun a hS => st_v hS (hS.wanted rfl rfl rfl) rfl (run_test hS rfl rfl (fun W => eqS34 _ _ _ _ _ _ W)) fun a hS => st_v hS rfl rfl (run_pick_t hS rfl rfl) fun a hS => st_v hS rfl rfl (run_move hS rfl) fun a hS => ?_
                          refine st_split (d := 189) hS rfl (fun hc26 hS => ?_) (fun hc26 hS => ?_)
                          · skip
                            try simp only [decide_eq_true_eq, decide_eq_false_iff_not, Bool.not_eq_true', Bool.not_eq_false', bne_iff_ne, beq_iff_eq, bne_eq_false_iff_eq, beq_eq_false_iff_ne, ne_eq, Int.not_le, Int.not_lt, ge_iff_le, gt_iff_lt] at hc26
                            
                            refine st_call (law02_works) Try.call16 hS (hS.wanted rfl rfl rfl) rfl rfl fun v W a hR hB hlt hS => ?_
                            subst hR
                            refine st_v hS rfl rfl (run_pick_t hS rfl rfl) fun a hS => st_v hS rfl rfl (run_assign hS rfl) fun a hS => wl_nil ?_
                            refine wpIn_ret ?_
                            repeat (first | refine q_ret ?_ | refine q_block_ret ?_)
                            refine hS.done (res1 (fn := Try.f13) (r1 := .tmp 6) rfl (rv_tmp hS rfl)) ?_
                            rfl
                          · skip
                            try simp only [decide_eq_true_eq, decide_eq_false_iff_not, Bool.not_eq_true', Bool.not_eq_false', bne_iff_ne, beq_iff_eq, bne_eq_false_iff_eq, beq_eq_false_iff_ne, ne_eq, Int.not_le, Int.not_lt, ge_iff_le, gt_iff_lt] at hc26
                            simp at hc26
                        · skip
                          try simp only [decide_eq_true_eq, decide_eq_false_iff_not, Bool.not_eq_true', Bool.not_eq_false', bne_iff_ne, beq_iff_eq, bne_eq_false_iff_eq, beq_eq_false_iff_ne, ne_eq, Int.not_le, Int.not_lt, ge_iff_le, gt_iff_lt] at hc25
                          simp at hc25

end Go.Proofs.Ytdnodlgebpnfoaa
