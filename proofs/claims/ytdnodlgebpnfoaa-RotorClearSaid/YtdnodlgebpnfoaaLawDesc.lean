/- The statement RotorDescends, walked. -/
import Derived.Test.YtdnodlgebpnfoaaRotor3
import Derived.Test.YtdnodlgebpnfoaaEx
import Derived.Test.YtdnodlgebpnfoaaDesc
namespace Go.Proofs.Ytdnodlgebpnfoaa
open Go Go.RowKit Go.Shelf Sw
set_option linter.unusedVariables false
set_option linter.unusedSimpArgs false

theorem t3d {p p' : Span} {i i' e e' : Int} (h1 : p = p') (h2 : i = i') (h3 : e = e') : Value.tuple #[.agg (spanC p).toArray, .int .i64 i, .int .i64 e] = .tuple #[.agg (spanC p').toArray, .int .i64 i', .int .i64 e'] := by subst h1 h2 h3; rfl


set_option maxHeartbeats 2000000 in
set_option maxRecDepth 100000 in
theorem rotor_ds1 {Vr : RV} {r : Rot} {A : Air} {Fr : Nat → Prop} (pc0 : Addr) (pc1 : Addr) {w : World} (hc0 : CellsAt w pc0 (machC Vr r A)) (hc1 : CellsAt w pc1 (rotC Vr r)) (hrr : RotR Fr w Vr r) (hX : 0 < r.low.X.length) : Ret Try.prog 101 [.pointer (some pc0), .pointer (some pc1)] w (fun v W' => ∃ s : SV, v = .slice s.a (([⟨Vr.low, r.low, (one (ix r.low.X 0)), A.weight⟩] : List LookV)).length s.c ∧ Sl kLook (fun k => w.heap.size ≤ k) W' s ([⟨Vr.low, r.low, (one (ix r.low.X 0)), A.weight⟩] : List LookV)) := by
  refine ret_start (n := 12) Try.func101 rfl rfl rfl (fun a hS => ?_)
  have Hc0 : ∀ W, Below w.heap.size w W → CellsAt W pc0 (machC Vr r A) := fun W hb => hc0.at_ hb
  have Hc1 : ∀ W, Below w.heap.size w W → CellsAt W pc1 (rotC Vr r) := fun W hb => hc1.at_ hb
  have Hr : ∀ W, Below w.heap.size w W → RotR Fr W Vr r := fun W hb => hrr.move (keep_of hb)
  refine wpIn_seq ?_
  refine wpIn_region_lit ?_
  refine st_v hS rfl rfl (run_assign hS rfl) fun a hS => wl_nil ?_
  refine wpIn_seq ?_
  have hlt0 := fun B hB => hS.lt (b := B) hB
  refine st_mix (k := 8) (by kernel_rfl) (by kernel_rfl) hS rfl rfl ?_
  refine mx_v (fun a W hS hB => run_load_ext Try.isAgg102 Try.sizeOf102 hS rfl rfl (Hc0 _ hS.below)) <| mx_v (fun a W hS hB => run_fieldAddrE fe27_5 hS rfl) <| mx_v (fun a W hS hB => run_fieldAddrE fe25_0 hS rfl) <| mx_v (fun a W hS hB => run_load_cell Try.isAgg22 hS rfl (by rw [add_add]; exact Hc1 _ hS.below 15 _ rfl)) <| ?_
  obtain ⟨ad0, hA0, hL0⟩ := sl_int (fun W hC => ((fun W hC => (Hr W hC).low) W hC).1) (Below.refl _ _) (i := 0) (j := 0) (by omega) (by omega)
  refine mx_v (fun a W hS hB => run_indexAddr Try.underlying22 Try.sizeOf3 hS rfl rfl hA0 (by omega) (by omega)) <| mx_v (fun a W hS hB => run_load_cell Try.isAgg3 hS rfl (hL0 _ hS.below)) <| mx_call Try.call90 rfl (fun a W hS hB => rotor_one) <| mx_call Try.call73 rfl (fun a W hS hB => mach_ring Vr r A (one (ix r.low.X (0))) (Hr _ hS.below)) <| ?_
  refine mx_end fun a W bs us hS hB hL => ?_
  dsimp only [kall, ball, List.cons_append, List.nil_append] at hS
  refine st_buildSlice (pv := [(0, .agg #[.slice _ _ _, .slice _ _ _, .slice _ _ _, .int .i64 _, .int .i64 _, .int .i64 _, .int .i64 _])]) (fun W => bs113_1_0 _ _ _ _ _ _ _ _ _ _ _ _ _ W) hS rfl rfl rfl fun W a b0 hS => st_v hS rfl rfl (run_assign hS rfl) fun a hS => wl_nil ?_
  refine wpIn_ret ?_
  repeat (first | refine q_ret ?_ | refine q_block_ret ?_)
  refine hS.done (res1 (fn := Try.f101) (r1 := .tmp 2) rfl (rv_tmp hS rfl)) ?_
  exact ⟨⟨some ⟨b0, 0, none⟩, 1⟩, rfl, own_new (enc := lookC) (nn := 7) (bb := 104) (hb := by decide) (hl := fun _ => rfl) ([⟨Vr.low, r.low, (one (ix r.low.X 0)), A.weight⟩] : List LookV) hS (i := 0) rfl rfl (Nat.le_of_ble_eq_true rfl)⟩


set_option maxHeartbeats 8000000 in
set_option maxRecDepth 100000 in
theorem rotor_Descent  (Vr : RV) (r : Rot) (A : Air) (sdr : SV) (dr : List Drop) {w : World} {Fr : Nat → Prop} (hr : RotR Fr w Vr r) {Fdr : Nat → Prop} (hdr : Sl kDrop Fdr w sdr dr)  : Ret Try.prog 45 [.agg (rotC Vr r).toArray, .agg (airC A).toArray, .slice sdr.a dr.length sdr.c] w (fun v _ => v = .tuple #[.agg (spanC (descV r A dr)).toArray, .int .i64 (descP r A dr), .int .i64 (descE r A dr)]) := by
  refine ret_start (n := 96) Try.func45 rfl rfl rfl (fun a hS => ?_)
  have Hr : ∀ W, Below w.heap.size w W → RotR Fr W Vr r := fun W hb => hr.move (keep_of hb)
  have Hdr : ∀ W, Below w.heap.size w W → Sl kDrop Fdr W sdr dr := fun W hb => hdr.at_ hb
  have hmdr := hdr.len
  refine wpIn_seq ?_
  refine wpIn_region_lit ?_
  refine st_box_agg hS rfl rfl rfl fun W a b0 hS => st_box_agg hS rfl rfl rfl fun W a b1 hS => st_alloc_agg Try.zeroValue34 hS rfl rfl fun W a b2 hS => st_v hS rfl rfl (run_assign hS rfl) fun a hS => st_v hS rfl rfl (run_assign hS rfl) fun a hS => wl_nil ?_
  refine wpIn_seq ?_
  refine wpIn_region_lit ?_
  refine st_v hS rfl rfl (run_load_all (i := 2) Try.isAgg27 Try.sizeOf27 hS rfl rfl rfl) fun a hS => st_v hS rfl rfl (run_load_all (i := 1) Try.isAgg36 Try.sizeOf36 hS rfl rfl rfl) fun a hS => st_v hS rfl rfl (run_build (pv := [(0, .agg #[.slice _ _ _, .slice _ _ _, .slice _ _ _, .slice _ _ _, .slice _ _ _, .slice _ _ _, .slice _ _ _, .slice _ _ _, .slice _ _ _, .slice _ _ _, .slice _ _ _, .slice _ _ _, .slice _ _ _, .slice _ _ _, .slice _ _ _, .slice _ _ _, .slice _ _ _, .slice _ _ _, .slice _ _ _, .slice _ _ _, .slice _ _ _, .slice _ _ _, .slice _ _ _, .slice _ _ _, .int .i64 _, .int .i64 _]), (1, .agg #[.int .i64 _, .int .i64 _, .int .i64 _, .int .i64 _, .int .i64 _, .int .i64 _, .int .i64 _, .int .i64 _])]) (fun W => bd102_0_1 _ _ _ _ _ _ _ _ _ _ _ _ _ _ _ _ _ _ _ _ _ _ _ _ _ _ _ _ _ _ _ _ _ _ _ _ _ _ _ _ _ _ _ _ _ _ _ _ _ _ _ _ _ _ _ _ _ _ _ _ _ _ _ _ _ _ _ _ _ _ _ _ _ _ _ _ _ _ _ _ _ _ W) hS rfl) fun a hS => st_alloc_agg Try.zeroValue102 hS rfl rfl fun W a b3 hS => st_store (cs' := [.slice Vr.hover.x.a r.hover.X.length Vr.hover.x.c, .slice Vr.hover.y.a r.hover.Y.length Vr.hover.y.c, .slice Vr.hover.v.a r.hover.V.length Vr.hover.v.c, .slice Vr.ground.x.a r.ground.X.length Vr.ground.x.c, .slice Vr.ground.y.a r.ground.Y.length Vr.ground.y.c, .slice Vr.ground.v.a r.ground.V.length Vr.ground.v.c, .slice Vr.level.x.a r.level.X.length Vr.level.x.c, .slice Vr.level.y.a r.level.Y.length Vr.level.y.c, .slice Vr.level.v.a r.level.V.length Vr.level.v.c, .slice Vr.power.x.a r.power.X.length Vr.power.x.c, .slice Vr.power.y.a r.power.Y.length Vr.power.y.c, .slice Vr.power.v.a r.power.V.length Vr.power.v.c, .slice Vr.never.x.a r.never.X.length Vr.never.x.c, .slice Vr.never.y.a r.never.Y.length Vr.never.y.c, .slice Vr.never.v.a r.never.V.length Vr.never.v.c, .slice Vr.low.x.a r.low.X.length Vr.low.x.c, .slice Vr.low.y.a r.low.Y.length Vr.low.y.c, .slice Vr.low.v.a r.low.V.length Vr.low.v.c, .slice Vr.high.x.a r.high.X.length Vr.high.x.c, .slice Vr.high.y.a r.high.Y.length Vr.high.y.c, .slice Vr.high.v.a r.high.V.length Vr.high.v.c, .slice Vr.glide.x.a r.glide.X.length Vr.glide.x.c, .slice Vr.glide.y.a r.glide.Y.length Vr.glide.y.c, .slice Vr.glide.v.a r.glide.V.length Vr.glide.v.c, .int .i64 r.climb, .int .i64 r.burn, .int .i64 A.weight.lo, .int .i64 A.weight.hi, .int .i64 A.temp.lo, .int .i64 A.temp.hi, .int .i64 A.height.lo, .int .i64 A.height.hi, .int .i64 A.wind.lo, .int .i64 A.wind.hi]) (i := 0) Try.sizeOf102 hS rfl rfl rfl rfl rfl rfl rfl rfl rfl fun W a hS => wl_nil ?_
  refine wpIn_seq ?_
  refine wpIn_seq ?_
  refine wpIn_region_lit ?_
  refine st_v hS rfl rfl (run_load_all (i := 3) Try.isAgg27 Try.sizeOf27 hS rfl rfl rfl) fun a hS => st_v hS rfl rfl (run_load_all (i := 2) Try.isAgg36 Try.sizeOf36 hS rfl rfl rfl) fun a hS => st_v hS rfl rfl (run_makeFunc hS rfl rfl) fun a hS => st_call (rotor_check Vr r A (⟨none, 0⟩ : SV) [] 101 [.pointer (some ⟨b3, 0, none⟩), .pointer (some ⟨b0, 0, none⟩)] ([⟨Vr.low, r.low, (one (ix r.low.X 0)), A.weight⟩] : List LookV) (Hr _ hS.below) (sl_nil kSpan (fun _ => True) _) Try.call101 (fun W' hb hrok => rotor_ds1 _ _ (hS.cells (i := 0) rfl _ hb) (hS.cells (i := 3) rfl _ hb) (hr.move (keep_of (hS.below.trans (hb.mono hS.below.size)))) (by have := (tab_axes (rot_p hrok).low.1).1.two; omega)) (fun hrok x hx => by
    have hRp := rot_p hrok
    have hr' := Hr _ hS.below
    simp only [List.mem_cons, List.not_mem_nil, or_false] at hx
    subst hx
    exact ⟨hr'.low, hRp.low.1⟩)) Try.call71 hS rfl rfl rfl fun v W a hR hB hlt hS => ?_
  rw [show errC r A (([] : List Span).all Span.ok && ([⟨Vr.low, r.low, (one (ix r.low.X 0)), A.weight⟩] : List LookV).all fun x => liesT x.t x.p x.q) = errC r A (ringOn r A) from errC_congr fun hrok => by
    simp [ringOn]] at hR
  subst hR
  refine st_v hS rfl rfl (run_assign hS rfl) fun a hS => wl_nil ?_
  refine wpIn_seq ?_
  refine wpIn_region_lit ?_
  refine st_v hS rfl rfl (run_move hS rfl) fun a hS => st_v hS rfl rfl (run_bin hS rfl rfl rfl) fun a hS => wl_nil ?_
  refine st_cond hS rfl (fun hc1 => ?_) (fun hc1 => ?_)
  · skip
    try simp only [decide_eq_true_eq, decide_eq_false_iff_not, Bool.not_eq_true', Bool.not_eq_false', bne_iff_ne, beq_iff_eq, bne_eq_false_iff_eq, beq_eq_false_iff_ne, ne_eq, Int.not_le, Int.not_lt, ge_iff_le, gt_iff_lt] at hc1
    refine wpIn_seq ?_
    refine wpIn_region_lit ?_
    refine st_v hS rfl rfl (run_build (pv := []) (fun W => bd34_ W) hS rfl) fun a hS => st_v hS rfl rfl (run_move hS rfl) fun a hS => st_store (i := 1) Try.sizeOf34 hS rfl rfl rfl rfl rfl rfl rfl rfl rfl fun W a hS => st_v hS rfl rfl (run_assign hS rfl) fun a hS => st_v hS rfl rfl (run_assign hS rfl) fun a hS => wl_nil ?_
    refine wpIn_ret ?_
    repeat (first | refine q_ret ?_ | refine q_block_ret ?_)
    refine hS.done (res3 (fn := Try.f45) (r1 := .cell 6 34) (r2 := .tmp 7) (r3 := .tmp 8) rfl (rv_agg (i := 1) Try.isAgg34 Try.sizeOf34 hS rfl rfl rfl) (rv_tmp hS rfl) (rv_tmp hS rfl)) ?_
    have hE : descE r A dr = errC r A (ringOn r A) := by unfold descE; rw [if_neg hc1]
    exact t3d (p := ⟨0, 0⟩) (i := 0) (by rw [descV, hE, if_neg hc1]) (by rw [descP, if_neg hc1]) hE.symm
  · skip
    try simp only [decide_eq_true_eq, decide_eq_false_iff_not, Bool.not_eq_true', Bool.not_eq_false', bne_iff_ne, beq_iff_eq, bne_eq_false_iff_eq, beq_eq_false_iff_ne, ne_eq, Int.not_le, Int.not_lt, ge_iff_le, gt_iff_lt] at hc1
    obtain ⟨hrok, haok, hrg⟩ := errC_ok hc1
    obtain ⟨hA1, hA2, hA3, hA4⟩ := (airOk_iff A).1 haok
    have hRp := rot_p hrok
    refine wpIn_skip ?_
    refine wpIn_seq ?_
    refine wpIn_seq ?_
    refine wpIn_region_lit ?_
    refine st_v hS rfl rfl (run_move hS rfl) fun a hS => st_v hS rfl rfl (run_len_slice Try.underlying82 hS rfl) fun a hS => st_v hS rfl rfl (run_bin hS rfl rfl rfl) fun a hS => wl_nil ?_
    refine st_cond hS rfl (fun hc2 => ?_) (fun hc2 => ?_)
    · skip
      try simp only [decide_eq_true_eq, decide_eq_false_iff_not, Bool.not_eq_true', Bool.not_eq_false', bne_iff_ne, beq_iff_eq, bne_eq_false_iff_eq, beq_eq_false_iff_ne, ne_eq, Int.not_le, Int.not_lt, ge_iff_le, gt_iff_lt] at hc2
      refine wpIn_seq ?_
      refine wpIn_region_lit ?_
      refine st_v hS rfl rfl (run_build (pv := []) (fun W => bd34_ W) hS rfl) fun a hS => st_store (i := 1) Try.sizeOf34 hS rfl rfl rfl rfl rfl rfl rfl rfl rfl fun W a hS => st_v hS rfl rfl (run_assign hS rfl) fun a hS => st_v hS rfl rfl (run_assign hS rfl) fun a hS => wl_nil ?_
      refine wpIn_ret ?_
      repeat (first | refine q_ret ?_ | refine q_block_ret ?_)
      refine hS.done (res3 (fn := Try.f45) (r1 := .cell 6 34) (r2 := .tmp 7) (r3 := .tmp 8) rfl (rv_agg (i := 1) Try.isAgg34 Try.sizeOf34 hS rfl rfl rfl) (rv_tmp hS rfl) (rv_tmp hS rfl)) ?_
      have hE : descE r A dr = 2 := by unfold descE; rw [if_pos hc1, if_pos (by omega)]
      exact t3d (p := ⟨0, 0⟩) (i := 0) (by rw [descV, hE]; rfl) (by rw [descP, if_pos hc1, if_pos (by omega)]) hE.symm
    · skip
      try simp only [decide_eq_true_eq, decide_eq_false_iff_not, Bool.not_eq_true', Bool.not_eq_false', bne_iff_ne, beq_iff_eq, bne_eq_false_iff_eq, beq_eq_false_iff_ne, ne_eq, Int.not_le, Int.not_lt, ge_iff_le, gt_iff_lt] at hc2
      
      refine wpIn_skip ?_
      refine wpIn_seq ?_
      refine wpIn_region_lit ?_
      refine st_alloc_agg Try.zeroValue34 hS rfl rfl fun W a b4 hS => wl_nil ?_
      refine wpIn_seq ?_
      refine wpIn_seq ?_
      refine wpIn_region_lit ?_
      refine st_v hS rfl rfl (run_move hS rfl) fun a hS => st_v hS rfl rfl (run_len_slice Try.underlying82 hS rfl) fun a hS => st_v hS rfl rfl (run_move hS rfl) fun a hS => wl_nil ?_
      refine wpIn_block ?_
      refine st_loop2 (α := Nat) (fun i => [(31, .int .i64 (((i : Nat) : Int)))]) [(0, _), (1, _), (2, _), (3, _), (4, _), (6, _), (9, _), (10, _), (11, _), (29, _), (30, _)] (fun l i => setB (l) 0 [.int .i64 (sumLo (dr.take i)), .int .i64 (sumHi (dr.take i))]) (fun i => i ≤ dr.length ∧ (∀ j, j < i → dropE r A (dropAt dr j) = 0) ∧ (-(i : Int) * 1000000000 ≤ sumLo (dr.take i) ∧ sumLo (dr.take i) ≤ (i : Int) * 1000000000) ∧ (-(i : Int) * 1000000000 ≤ sumHi (dr.take i) ∧ sumHi (dr.take i) ≤ (i : Int) * 1000000000)) (fun i => dr.length - i) (0) hS (Sub.cons rfl (Sub.cons rfl (Sub.cons rfl (Sub.cons rfl (Sub.cons rfl (Sub.cons rfl (Sub.cons rfl (Sub.cons rfl (Sub.cons rfl (Sub.cons rfl (Sub.cons rfl (Sub.cons rfl Sub.nil)))))))))))) rfl (⟨Nat.zero_le _, fun j hj => absurd hj (Nat.not_lt_zero j), by simp [sumLo], by simp [sumHi]⟩) (fun i W a hφ hS => ?_)
      dsimp only [setB, List.cons_append, List.nil_append, List.take] at hS
      obtain ⟨hi, hg, hb1, hb2⟩ := hφ
      refine wpIn_seq ?_
      refine wpIn_region_lit ?_
      refine st_v hS rfl rfl (run_bin hS rfl rfl rfl) fun a hS => wl_nil ?_
      refine wpIn_seq ?_
      refine st_cond hS rfl (fun hc3 => ?_) (fun hc3 => ?_)
      · skip
        try simp only [decide_eq_true_eq, decide_eq_false_iff_not, Bool.not_eq_true', Bool.not_eq_false', bne_iff_ne, beq_iff_eq, bne_eq_false_iff_eq, beq_eq_false_iff_ne, ne_eq, Int.not_le, Int.not_lt, ge_iff_le, gt_iff_lt] at hc3
        
        refine wpIn_skip ?_
        refine wpIn_seq ?_
        refine wpIn_block ?_
        refine wpIn_seq ?_
        refine wpIn_region_lit ?_
        refine st_v hS rfl rfl (run_move hS rfl) fun a hS => ?_
        obtain ⟨ad0, hA0, hL0⟩ := sl_of Hdr (Below.refl _ _) dropD (i := ((i : Nat) : Int)) (j := i) (by omega) (by omega)
        refine st_v hS rfl rfl (run_indexAddr Try.underlying82 Try.sizeOf88 hS rfl rfl hA0 (by omega) (by omega)) fun a hS => st_v hS rfl rfl (run_load_ext Try.isAgg88 Try.sizeOf88 hS rfl rfl (hL0 _ hS.below)) fun a hS => st_alloc_agg Try.zeroValue88 hS rfl rfl fun W a b5 hS => st_v hS rfl rfl (run_assign hS rfl) fun a hS => st_store (cs' := [.int .i64 ((((dropAt dr (i))).speed).lo), .int .i64 ((((dropAt dr (i))).speed).hi), .int .i64 ((((dropAt dr (i))).sink).lo), .int .i64 ((((dropAt dr (i))).sink).hi), .int .i64 (((dropAt dr (i))).ticks)]) (i := 0) Try.sizeOf88 hS rfl rfl rfl rfl rfl rfl rfl rfl rfl fun W a hS => wl_nil ?_
        refine wpIn_seq ?_
        refine wpIn_seq ?_
        refine wpIn_region_lit ?_
        refine st_v hS rfl rfl (run_fieldAddr fa88_2 hS rfl) fun a hS => st_v hS rfl rfl (run_load_one (i := 0) Try.isAgg3 hS rfl rfl rfl) fun a hS => st_call (rotor_within) Try.call58 hS rfl rfl rfl fun v W a hR hB hlt hS => ?_
        subst hR
        refine st_v hS rfl rfl (run_not hS rfl) fun a hS => st_v hS rfl rfl (run_move hS rfl) fun a hS => ?_
        refine st_split (d := 40) hS rfl (fun hc4 hS => ?_) (fun hc4 hS => ?_)
        · skip
          try simp only [decide_eq_true_eq, decide_eq_false_iff_not, Bool.not_eq_true', Bool.not_eq_false', bne_iff_ne, beq_iff_eq, bne_eq_false_iff_eq, beq_eq_false_iff_ne, ne_eq, Int.not_le, Int.not_lt, ge_iff_le, gt_iff_lt] at hc4
          refine st_skip hS (hS.unwanted rfl rfl rfl rfl) rfl fun a hS => st_skip hS (hS.unwanted rfl rfl rfl rfl) rfl fun a hS => st_skip hS (hS.unwanted rfl rfl rfl rfl) rfl fun a hS => st_skip hS (hS.unwanted rfl rfl rfl rfl) rfl fun a hS => st_v hS rfl rfl (run_pick_t hS rfl rfl) fun a hS => st_v hS rfl rfl (run_move hS rfl) fun a hS => st_skip hS (hS.unwanted rfl rfl rfl rfl) rfl fun a hS => st_skip hS (hS.unwanted rfl rfl rfl rfl) rfl fun a hS => st_skip hS (hS.unwanted rfl rfl rfl rfl) rfl fun a hS => st_skip hS (hS.unwanted rfl rfl rfl rfl) rfl fun a hS => st_v hS rfl rfl (run_pick_t hS rfl rfl) fun a hS => st_v hS rfl rfl (run_move hS rfl) fun a hS => st_skip hS (hS.unwanted rfl rfl rfl rfl) rfl fun a hS => st_skip hS (hS.unwanted rfl rfl rfl rfl) rfl fun a hS => st_skip hS (hS.unwanted rfl rfl rfl rfl) rfl fun a hS => st_skip hS (hS.unwanted rfl rfl rfl rfl) rfl fun a hS => st_skip hS (hS.unwanted rfl rfl rfl rfl) rfl fun a hS => st_skip hS (hS.unwanted rfl rfl rfl rfl) rfl fun a hS => st_v hS rfl rfl (run_pick_t hS rfl rfl) fun a hS => wl_nil ?_
          have hS := hS.sub (κ' := [(0, _), (1, _), (2, _), (3, _), (4, _), (6, _), (9, _), (10, _), (11, _), (29, _), (30, _), (31, _), (13, _), (12, _), (59, _)]) (Sub.cons rfl (Sub.cons rfl (Sub.cons rfl (Sub.cons rfl (Sub.cons rfl (Sub.cons rfl (Sub.cons rfl (Sub.cons rfl (Sub.cons rfl (Sub.cons rfl (Sub.cons rfl (Sub.cons rfl (Sub.cons rfl (Sub.cons rfl (Sub.cons rfl Sub.nil)))))))))))))))
          refine st_cond_t hS rfl ?_
          refine wpIn_seq ?_
          refine wpIn_region_lit ?_
          refine st_v hS rfl rfl (run_build (pv := []) (fun W => bd34_ W) hS rfl) fun a hS => st_v hS rfl rfl (run_move hS rfl) fun a hS => st_store (i := 3) Try.sizeOf34 hS rfl rfl rfl rfl rfl rfl rfl rfl rfl fun W a hS => st_v hS rfl rfl (run_assign hS rfl) fun a hS => st_v hS rfl rfl (run_assign hS rfl) fun a hS => wl_nil ?_
          refine wpIn_ret ?_
          repeat (first | refine q_ret ?_ | refine q_block_ret ?_)
          refine hS.done (res3 (fn := Try.f45) (r1 := .cell 6 34) (r2 := .tmp 7) (r3 := .tmp 8) rfl (rv_agg (i := 3) Try.isAgg34 Try.sizeOf34 hS rfl rfl rfl) (rv_tmp hS rfl) (rv_tmp hS rfl)) ?_
          have hd : dropE r A (dropAt dr i) = 1 := by simp [dropE, dropOk, hc1, hc2, hc3, hc4]
          obtain ⟨e1, e2, e3⟩ := desc_bad hc1 (by omega) (by omega) hg (by rw [hd]; decide)
          exact t3d e3.symm e2.symm (by rw [e1, hd])
        · skip
          try simp only [decide_eq_true_eq, decide_eq_false_iff_not, Bool.not_eq_true', Bool.not_eq_false', bne_iff_ne, beq_iff_eq, bne_eq_false_iff_eq, beq_eq_false_iff_ne, ne_eq, Int.not_le, Int.not_lt, ge_iff_le, gt_iff_lt] at hc4
          
          refine st_v hS (hS.wanted rfl rfl rfl) rfl (run_fieldAddr fa88_0 hS rfl) fun a hS => st_v hS (hS.wanted rfl rfl rfl) rfl (run_load_agg (i := 0) (vs := [_, _]) Try.isAgg34 Try.sizeOf34 hS rfl rfl rfl ⟨rfl, rfl, trivial⟩) fun a hS => st_call (rotor_valid (((dropAt dr (i))).speed)) Try.call93 hS (hS.wanted rfl rfl rfl) rfl rfl fun v W a hR hB hlt hS => ?_
          subst hR
          refine st_v hS (hS.wanted rfl rfl rfl) rfl (run_not hS rfl) fun a hS => st_v hS rfl rfl (run_pick_f hS rfl rfl) fun a hS => st_v hS rfl rfl (run_move hS rfl) fun a hS => ?_
          refine st_split (d := 46) hS rfl (fun hc5 hS => ?_) (fun hc5 hS => ?_)
          · skip
            try simp only [decide_eq_true_eq, decide_eq_false_iff_not, Bool.not_eq_true', Bool.not_eq_false', bne_iff_ne, beq_iff_eq, bne_eq_false_iff_eq, beq_eq_false_iff_ne, ne_eq, Int.not_le, Int.not_lt, ge_iff_le, gt_iff_lt] at hc5
            refine st_skip hS (hS.unwanted rfl rfl rfl rfl) rfl fun a hS => st_skip hS (hS.unwanted rfl rfl rfl rfl) rfl fun a hS => st_skip hS (hS.unwanted rfl rfl rfl rfl) rfl fun a hS => st_skip hS (hS.unwanted rfl rfl rfl rfl) rfl fun a hS => st_v hS rfl rfl (run_pick_t hS rfl rfl) fun a hS => st_v hS rfl rfl (run_move hS rfl) fun a hS => st_skip hS (hS.unwanted rfl rfl rfl rfl) rfl fun a hS => st_skip hS (hS.unwanted rfl rfl rfl rfl) rfl fun a hS => st_skip hS (hS.unwanted rfl rfl rfl rfl) rfl fun a hS => st_skip hS (hS.unwanted rfl rfl rfl rfl) rfl fun a hS => st_skip hS (hS.unwanted rfl rfl rfl rfl) rfl fun a hS => st_skip hS (hS.unwanted rfl rfl rfl rfl) rfl fun a hS => st_v hS rfl rfl (run_pick_t hS rfl rfl) fun a hS => wl_nil ?_
            have hS := hS.sub (κ' := [(0, _), (1, _), (2, _), (3, _), (4, _), (6, _), (9, _), (10, _), (11, _), (29, _), (30, _), (31, _), (13, _), (12, _), (59, _)]) (Sub.cons rfl (Sub.cons rfl (Sub.cons rfl (Sub.cons rfl (Sub.cons rfl (Sub.cons rfl (Sub.cons rfl (Sub.cons rfl (Sub.cons rfl (Sub.cons rfl (Sub.cons rfl (Sub.cons rfl (Sub.cons rfl (Sub.cons rfl (Sub.cons rfl Sub.nil)))))))))))))))
            refine st_cond_t hS rfl ?_
            refine wpIn_seq ?_
            refine wpIn_region_lit ?_
            refine st_v hS rfl rfl (run_build (pv := []) (fun W => bd34_ W) hS rfl) fun a hS => st_v hS rfl rfl (run_move hS rfl) fun a hS => st_store (i := 3) Try.sizeOf34 hS rfl rfl rfl rfl rfl rfl rfl rfl rfl fun W a hS => st_v hS rfl rfl (run_assign hS rfl) fun a hS => st_v hS rfl rfl (run_assign hS rfl) fun a hS => wl_nil ?_
            refine wpIn_ret ?_
            repeat (first | refine q_ret ?_ | refine q_block_ret ?_)
            refine hS.done (res3 (fn := Try.f45) (r1 := .cell 6 34) (r2 := .tmp 7) (r3 := .tmp 8) rfl (rv_agg (i := 3) Try.isAgg34 Try.sizeOf34 hS rfl rfl rfl) (rv_tmp hS rfl) (rv_tmp hS rfl)) ?_
            have hd : dropE r A (dropAt dr i) = 1 := by simp [dropE, dropOk, hc1, hc2, hc3, hc4, hc5]
            obtain ⟨e1, e2, e3⟩ := desc_bad hc1 (by omega) (by omega) hg (by rw [hd]; decide)
            exact t3d e3.symm e2.symm (by rw [e1, hd])
          · skip
            try simp only [decide_eq_true_eq, decide_eq_false_iff_not, Bool.not_eq_true', Bool.not_eq_false', bne_iff_ne, beq_iff_eq, bne_eq_false_iff_eq, beq_eq_false_iff_ne, ne_eq, Int.not_le, Int.not_lt, ge_iff_le, gt_iff_lt] at hc5
            
            refine st_v hS (hS.wanted rfl rfl rfl) rfl (run_fieldAddr fa88_1 hS rfl) fun a hS => st_v hS (hS.wanted rfl rfl rfl) rfl (run_load_agg (i := 0) (vs := [_, _]) Try.isAgg34 Try.sizeOf34 hS rfl rfl rfl ⟨rfl, rfl, trivial⟩) fun a hS => st_call (rotor_valid (((dropAt dr (i))).sink)) Try.call93 hS (hS.wanted rfl rfl rfl) rfl rfl fun v W a hR hB hlt hS => ?_
            subst hR
            refine st_v hS (hS.wanted rfl rfl rfl) rfl (run_not hS rfl) fun a hS => st_v hS rfl rfl (run_pick_f hS rfl rfl) fun a hS => st_v hS rfl rfl (run_move hS rfl) fun a hS => ?_
            refine st_split (d := 52) hS rfl (fun hc6 hS => ?_) (fun hc6 hS => ?_)
            · skip
              try simp only [decide_eq_true_eq, decide_eq_false_iff_not, Bool.not_eq_true', Bool.not_eq_false', bne_iff_ne, beq_iff_eq, bne_eq_false_iff_eq, beq_eq_false_iff_ne, ne_eq, Int.not_le, Int.not_lt, ge_iff_le, gt_iff_lt] at hc6
              refine st_skip hS (hS.unwanted rfl rfl rfl rfl) rfl fun a hS => st_skip hS (hS.unwanted rfl rfl rfl rfl) rfl fun a hS => st_skip hS (hS.unwanted rfl rfl rfl rfl) rfl fun a hS => st_skip hS (hS.unwanted rfl rfl rfl rfl) rfl fun a hS => st_skip hS (hS.unwanted rfl rfl rfl rfl) rfl fun a hS => st_skip hS (hS.unwanted rfl rfl rfl rfl) rfl fun a hS => st_v hS rfl rfl (run_pick_t hS rfl rfl) fun a hS => wl_nil ?_
              have hS := hS.sub (κ' := [(0, _), (1, _), (2, _), (3, _), (4, _), (6, _), (9, _), (10, _), (11, _), (29, _), (30, _), (31, _), (13, _), (12, _), (59, _)]) (Sub.cons rfl (Sub.cons rfl (Sub.cons rfl (Sub.cons rfl (Sub.cons rfl (Sub.cons rfl (Sub.cons rfl (Sub.cons rfl (Sub.cons rfl (Sub.cons rfl (Sub.cons rfl (Sub.cons rfl (Sub.cons rfl (Sub.cons rfl (Sub.cons rfl Sub.nil)))))))))))))))
              refine st_cond_t hS rfl ?_
              refine wpIn_seq ?_
              refine wpIn_region_lit ?_
              refine st_v hS rfl rfl (run_build (pv := []) (fun W => bd34_ W) hS rfl) fun a hS => st_v hS rfl rfl (run_move hS rfl) fun a hS => st_store (i := 3) Try.sizeOf34 hS rfl rfl rfl rfl rfl rfl rfl rfl rfl fun W a hS => st_v hS rfl rfl (run_assign hS rfl) fun a hS => st_v hS rfl rfl (run_assign hS rfl) fun a hS => wl_nil ?_
              refine wpIn_ret ?_
              repeat (first | refine q_ret ?_ | refine q_block_ret ?_)
              refine hS.done (res3 (fn := Try.f45) (r1 := .cell 6 34) (r2 := .tmp 7) (r3 := .tmp 8) rfl (rv_agg (i := 3) Try.isAgg34 Try.sizeOf34 hS rfl rfl rfl) (rv_tmp hS rfl) (rv_tmp hS rfl)) ?_
              have hd : dropE r A (dropAt dr i) = 1 := by simp [dropE, dropOk, hc1, hc2, hc3, hc4, hc5, hc6]
              obtain ⟨e1, e2, e3⟩ := desc_bad hc1 (by omega) (by omega) hg (by rw [hd]; decide)
              exact t3d e3.symm e2.symm (by rw [e1, hd])
            · skip
              try simp only [decide_eq_true_eq, decide_eq_false_iff_not, Bool.not_eq_true', Bool.not_eq_false', bne_iff_ne, beq_iff_eq, bne_eq_false_iff_eq, beq_eq_false_iff_ne, ne_eq, Int.not_le, Int.not_lt, ge_iff_le, gt_iff_lt] at hc6
              
              refine st_v hS (hS.wanted rfl rfl rfl) rfl (run_load_all (i := 2) Try.isAgg102 Try.sizeOf102 hS rfl rfl rfl) fun a hS => st_v hS (hS.wanted rfl rfl rfl) rfl (run_fieldAddr fa88_0 hS rfl) fun a hS => st_v hS (hS.wanted rfl rfl rfl) rfl (run_load_agg (i := 0) (vs := [_, _]) Try.isAgg34 Try.sizeOf34 hS rfl rfl rfl ⟨rfl, rfl, trivial⟩) fun a hS => st_call (mach_ring Vr r A (((dropAt dr (i))).speed) (Hr _ hS.below)) Try.call73 hS (hS.wanted rfl rfl rfl) rfl rfl fun v W a hR hB hlt hS => ?_
              subst hR
              refine st_call (rotor_lies (⟨Vr.low, r.low, ((dropAt dr (i))).speed, A.weight⟩ : LookV) ((fun W hC => (Hr W hC).low) _ hS.below) (by exact hRp.low.1)) Try.call102 hS (hS.wanted rfl rfl rfl) rfl rfl fun v W a hR hB hlt hS => ?_
              subst hR
              refine st_v hS (hS.wanted rfl rfl rfl) rfl (run_not hS rfl) fun a hS => st_v hS rfl rfl (run_pick_f hS rfl rfl) fun a hS => wl_nil ?_
              have hS := hS.sub (κ' := [(0, _), (1, _), (2, _), (3, _), (4, _), (6, _), (9, _), (10, _), (11, _), (29, _), (30, _), (31, _), (13, _), (12, _), (59, _)]) (Sub.cons rfl (Sub.cons rfl (Sub.cons rfl (Sub.cons rfl (Sub.cons rfl (Sub.cons rfl (Sub.cons rfl (Sub.cons rfl (Sub.cons rfl (Sub.cons rfl (Sub.cons rfl (Sub.cons rfl (Sub.cons rfl (Sub.cons rfl (Sub.cons rfl Sub.nil)))))))))))))))
              refine st_cond hS rfl (fun hc7 => ?_) (fun hc7 => ?_)
              · skip
                try simp only [decide_eq_true_eq, decide_eq_false_iff_not, Bool.not_eq_true', Bool.not_eq_false', bne_iff_ne, beq_iff_eq, bne_eq_false_iff_eq, beq_eq_false_iff_ne, ne_eq, Int.not_le, Int.not_lt, ge_iff_le, gt_iff_lt] at hc7
                refine wpIn_seq ?_
                refine wpIn_region_lit ?_
                refine st_v hS rfl rfl (run_build (pv := []) (fun W => bd34_ W) hS rfl) fun a hS => st_v hS rfl rfl (run_move hS rfl) fun a hS => st_store (i := 3) Try.sizeOf34 hS rfl rfl rfl rfl rfl rfl rfl rfl rfl fun W a hS => st_v hS rfl rfl (run_assign hS rfl) fun a hS => st_v hS rfl rfl (run_assign hS rfl) fun a hS => wl_nil ?_
                refine wpIn_ret ?_
                repeat (first | refine q_ret ?_ | refine q_block_ret ?_)
                refine hS.done (res3 (fn := Try.f45) (r1 := .cell 6 34) (r2 := .tmp 7) (r3 := .tmp 8) rfl (rv_agg (i := 3) Try.isAgg34 Try.sizeOf34 hS rfl rfl rfl) (rv_tmp hS rfl) (rv_tmp hS rfl)) ?_
                have hd : dropE r A (dropAt dr i) = 1 := by simp [dropE, dropOk, hc1, hc2, hc3, hc4, hc5, hc6, hc7]
                obtain ⟨e1, e2, e3⟩ := desc_bad hc1 (by omega) (by omega) hg (by rw [hd]; decide)
                exact t3d e3.symm e2.symm (by rw [e1, hd])
              · skip
                try simp only [decide_eq_true_eq, decide_eq_false_iff_not, Bool.not_eq_true', Bool.not_eq_false', bne_iff_ne, beq_iff_eq, bne_eq_false_iff_eq, beq_eq_false_iff_ne, ne_eq, Int.not_le, Int.not_lt, ge_iff_le, gt_iff_lt] at hc7
                have hdo : dropOk r A (dropAt dr i) = true := by simp [dropOk, hc1, hc2, hc3, hc4, hc5, hc6, hc7]
                obtain ⟨hti, hsp, hsi, hli⟩ := dropOk_parts hdo
                have hon : onRing r A (dropAt dr i).speed = true := by simp [onRing, hsp, hli]
                refine wpIn_skip ?_
                refine wpIn_seq ?_
                refine wpIn_seq ?_
                refine wpIn_region_lit ?_
                refine st_v hS rfl rfl (run_load_all (i := 2) Try.isAgg102 Try.sizeOf102 hS rfl rfl rfl) fun a hS => st_v hS rfl rfl (run_fieldAddr fa88_0 hS rfl) fun a hS => st_v hS rfl rfl (run_load_agg (i := 0) (vs := [_, _]) Try.isAgg34 Try.sizeOf34 hS rfl rfl rfl ⟨rfl, rfl, trivial⟩) fun a hS => st_v hS rfl rfl (run_fieldAddr fa88_1 hS rfl) fun a hS => st_v hS rfl rfl (run_load_agg (i := 0) (vs := [_, _]) Try.isAgg34 Try.sizeOf34 hS rfl rfl rfl ⟨rfl, rfl, trivial⟩) fun a hS => st_call (mach_wake Vr r A (((dropAt dr (i))).speed) (((dropAt dr (i))).sink) (Hr _ hS.below) (by assumption) (by assumption) (by exact hon)) Try.call74 hS rfl rfl rfl fun v W a hR hB hlt hS => ?_
                subst hR
                refine wl_nil ?_
                refine st_cond hS rfl (fun hc8 => ?_) (fun hc8 => ?_)
                · skip
                  try simp only [decide_eq_true_eq, decide_eq_false_iff_not, Bool.not_eq_true', Bool.not_eq_false', bne_iff_ne, beq_iff_eq, bne_eq_false_iff_eq, beq_eq_false_iff_ne, ne_eq, Int.not_le, Int.not_lt, ge_iff_le, gt_iff_lt] at hc8
                  refine wpIn_seq ?_
                  refine wpIn_region_lit ?_
                  refine st_v hS rfl rfl (run_build (pv := []) (fun W => bd34_ W) hS rfl) fun a hS => st_v hS rfl rfl (run_move hS rfl) fun a hS => st_store (i := 3) Try.sizeOf34 hS rfl rfl rfl rfl rfl rfl rfl rfl rfl fun W a hS => st_v hS rfl rfl (run_assign hS rfl) fun a hS => st_v hS rfl rfl (run_assign hS rfl) fun a hS => wl_nil ?_
                  refine wpIn_ret ?_
                  repeat (first | refine q_ret ?_ | refine q_block_ret ?_)
                  refine hS.done (res3 (fn := Try.f45) (r1 := .cell 6 34) (r2 := .tmp 7) (r3 := .tmp 8) rfl (rv_agg (i := 3) Try.isAgg34 Try.sizeOf34 hS rfl rfl rfl) (rv_tmp hS rfl) (rv_tmp hS rfl)) ?_
                  have hd : dropE r A (dropAt dr i) = 22 := by simp [dropE, hdo, hc1, hc2, hc3, hc4, hc5, hc6, hc7, hc8]
                  obtain ⟨e1, e2, e3⟩ := desc_bad hc1 (by omega) (by omega) hg (by rw [hd]; decide)
                  exact t3d e3.symm e2.symm (by rw [e1, hd])
                · skip
                  try simp only [decide_eq_true_eq, decide_eq_false_iff_not, Bool.not_eq_true', Bool.not_eq_false', bne_iff_ne, beq_iff_eq, bne_eq_false_iff_eq, beq_eq_false_iff_ne, ne_eq, Int.not_le, Int.not_lt, ge_iff_le, gt_iff_lt] at hc8
                  have hd : dropE r A (dropAt dr i) = 0 := by simp [dropE, hdo, hc1, hc2, hc3, hc4, hc5, hc6, hc7, hc8]
                  have hsi' := (Span.ok_iff _).1 hsi
                  have hm1 := prod_abs (x := (dropAt dr i).sink.lo) (y := (dropAt dr i).ticks) (by omega) hti; have hm2 := prod_abs (x := (dropAt dr i).sink.hi) (y := (dropAt dr i).ticks) (by omega) hti
                  have hs := sum_take (l := dr) (i := i) (by omega)
                  refine wpIn_skip ?_
                  have hS := hS.sub (κ' := [(0, _), (1, _), (2, _), (3, _), (4, _), (6, _), (9, _), (10, _), (11, _), (29, _), (30, _), (31, _), (13, _), (12, _)]) (Sub.cons rfl (Sub.cons rfl (Sub.cons rfl (Sub.cons rfl (Sub.cons rfl (Sub.cons rfl (Sub.cons rfl (Sub.cons rfl (Sub.cons rfl (Sub.cons rfl (Sub.cons rfl (Sub.cons rfl (Sub.cons rfl (Sub.cons rfl Sub.nil))))))))))))))
                  refine st_cutB [(1, [.int .i64 (sumLo (dr.take (i + 1))), .int .i64 (sumHi (dr.take (i + 1)))])] hS ?_ (fun W a hS => ?_)
                  · skip
                    refine anyh_start (by kernel_rfl) [true, false, true, true, true, true] hS fun W hS => ?_
                    refine anyh_take (i := 0) [true, false, true, true, true, true] hS (fun _ h => h) rfl rfl (by kernel_rfl) (by kernel_rfl) (by kernel_rfl) rfl rfl (fun W' hS => run_fieldAddr fa34_0 hS rfl) fun a hS => ?_
                    refine anyh_take (i := 2) [true, false, true, true, true, true] hS (fun _ h => h) rfl rfl (by kernel_rfl) (by kernel_rfl) (by kernel_rfl) rfl rfl (fun W' hS => run_fieldAddr fa88_1 hS rfl) fun a hS => ?_
                    refine anyh_take (i := 3) [true, false, true, true, true, true] hS (fun _ h => h) rfl rfl (by kernel_rfl) (by kernel_rfl) (by kernel_rfl) rfl rfl (fun W' hS => run_fieldAddr fa34_0 hS rfl) fun a hS => ?_
                    refine anyh_take (i := 4) [true, false, true, true, true, true] hS (fun _ h => h) rfl rfl (by kernel_rfl) (by kernel_rfl) (by kernel_rfl) rfl rfl (fun W' hS => run_load_one (i := 0) Try.isAgg3 hS rfl rfl rfl) fun a hS => ?_
                    refine anyh_take (i := 5) [true, false, true, true, true, true] hS (fun _ h => h) rfl rfl (by kernel_rfl) (by kernel_rfl) (by kernel_rfl) rfl rfl (fun W' hS => run_fieldAddr fa88_2 hS rfl) fun a hS => ?_
                    refine anyh_take (i := 6) [true, false, true, true, true, true] hS (fun _ h => h) rfl rfl (by kernel_rfl) (by kernel_rfl) (by kernel_rfl) rfl rfl (fun W' hS => run_load_one (i := 0) Try.isAgg3 hS rfl rfl rfl) fun a hS => ?_
                    refine anyh_take (i := 7) [true, false, true, true, true, true] hS (fun _ h => h) rfl rfl (by kernel_rfl) (by kernel_rfl) (by kernel_rfl) rfl rfl (fun W' hS => run_mul (t := ((dropAt dr i).sink.lo * (dropAt dr i).ticks)) hS rfl rfl (by rfl) (by omega)) fun a hS => ?_
                    refine anyh_take (i := 9) [true, false, true, true, true, true] hS (fun _ h => h) rfl rfl (by kernel_rfl) (by kernel_rfl) (by kernel_rfl) rfl rfl (fun W' hS => run_fieldAddr fa34_1 hS rfl) fun a hS => ?_
                    refine anyh_take (i := 11) [true, false, true, true, true, true] hS (fun _ h => h) rfl rfl (by kernel_rfl) (by kernel_rfl) (by kernel_rfl) rfl rfl (fun W' hS => run_fieldAddr fa88_1 hS rfl) fun a hS => ?_
                    refine anyh_take (i := 12) [true, false, true, true, true, true] hS (fun _ h => h) rfl rfl (by kernel_rfl) (by kernel_rfl) (by kernel_rfl) rfl rfl (fun W' hS => run_fieldAddr fa34_1 hS rfl) fun a hS => ?_
                    refine anyh_take (i := 13) [true, false, true, true, true, true] hS (fun _ h => h) rfl rfl (by kernel_rfl) (by kernel_rfl) (by kernel_rfl) rfl rfl (fun W' hS => run_load_one (i := 0) Try.isAgg3 hS rfl rfl rfl) fun a hS => ?_
                    refine anyh_take (i := 14) [true, false, true, true, true, true] hS (fun _ h => h) rfl rfl (by kernel_rfl) (by kernel_rfl) (by kernel_rfl) rfl rfl (fun W' hS => run_fieldAddr fa88_2 hS rfl) fun a hS => ?_
                    refine anyh_take (i := 15) [true, false, true, true, true, true] hS (fun _ h => h) rfl rfl (by kernel_rfl) (by kernel_rfl) (by kernel_rfl) rfl rfl (fun W' hS => run_load_one (i := 0) Try.isAgg3 hS rfl rfl rfl) fun a hS => ?_
                    refine anyh_take (i := 16) [true, false, true, true, true, true] hS (fun _ h => h) rfl rfl (by kernel_rfl) (by kernel_rfl) (by kernel_rfl) rfl rfl (fun W' hS => run_mul (t := ((dropAt dr i).sink.hi * (dropAt dr i).ticks)) hS rfl rfl (by rfl) (by omega)) fun a hS => ?_
                    refine anyh_go (rs := [1, 10]) (by kernel_rfl) (by simp) ⟨⟨_, rfl, ?_⟩, ⟨_, rfl, ?_⟩, trivial⟩
                    · skip
                      refine st_v hS rfl rfl (run_load_one (i := 1) Try.isAgg3 hS rfl rfl rfl) fun a hS => wl_nil ?_
                      refine anyh_next [true, false, true, true, true, true] hS (fun _ h => h) rfl ?_
                      refine anyh_take (i := 8) [true, false, true, true, true, true] hS (fun _ h => h) rfl rfl (by kernel_rfl) (by kernel_rfl) (by kernel_rfl) rfl rfl (fun W' hS => run_add (t := (sumLo (dr.take (i + 1)))) hS rfl rfl (by exact hs.1.symm) (by omega) (by omega)) fun a hS => ?_
                      refine anyh_go (rs := [10]) (by kernel_rfl) (by simp) ⟨⟨_, rfl, ?_⟩, trivial⟩
                      refine st_v hS rfl rfl (run_load_one (i := 1) Try.isAgg3 hS rfl rfl rfl) fun a hS => wl_nil ?_
                      refine anyh_next [true, false, true, true, true, true] hS (fun _ h => h) rfl ?_
                      refine anyh_take (i := 17) [true, false, true, true, true, true] hS (fun _ h => h) rfl rfl (by kernel_rfl) (by kernel_rfl) (by kernel_rfl) rfl rfl (fun W' hS => run_add (t := (sumHi (dr.take (i + 1)))) hS rfl rfl (by exact hs.2.symm) (by omega) (by omega)) fun a hS => ?_
                      refine anyh_take (i := 18) [true, false, true, true, true, true] hS (fun _ h => h) rfl rfl (by kernel_rfl) (by kernel_rfl) (by kernel_rfl) rfl rfl (fun W' hS => run_fieldAddr fa34_0 hS rfl) fun a hS => ?_
                      refine anyh_go (rs := [19]) (by kernel_rfl) (by simp) ⟨⟨_, rfl, ?_⟩, trivial⟩
                      refine st_store (i := 1) Try.sizeOf3 hS rfl rfl rfl rfl rfl rfl rfl rfl rfl fun W a hS => wl_nil ?_
                      refine anyh_next [true, false, true, true, true, true] hS (fun _ h => h) rfl ?_
                      refine anyh_take (i := 20) [true, false, true, true, true, true] hS (fun _ h => h) rfl rfl (by kernel_rfl) (by kernel_rfl) (by kernel_rfl) rfl rfl (fun W' hS => run_fieldAddr fa34_1 hS rfl) fun a hS => ?_
                      refine anyh_go (rs := [21]) (by kernel_rfl) (by simp) ⟨⟨_, rfl, ?_⟩, trivial⟩
                      refine st_store (i := 1) Try.sizeOf3 hS rfl rfl rfl rfl rfl rfl rfl rfl rfl fun W a hS => wl_nil ?_
                      refine anyh_next [true, false, true, true, true, true] hS (fun _ h => h) rfl ?_
                      refine anyh_done (by kernel_rfl) ?_ _
                      exact cut_end (hS.sub (Sub.cons rfl (Sub.cons rfl (Sub.cons rfl (Sub.cons rfl (Sub.cons rfl (Sub.cons rfl (Sub.cons rfl (Sub.cons rfl (Sub.cons rfl (Sub.cons rfl (Sub.cons rfl (Sub.cons rfl (Sub.cons rfl (Sub.cons rfl Sub.nil)))))))))))))))
                    · skip
                      refine st_v hS rfl rfl (run_load_one (i := 1) Try.isAgg3 hS rfl rfl rfl) fun a hS => wl_nil ?_
                      refine anyh_next [true, false, true, true, true, true] hS (fun _ h => h) rfl ?_
                      refine anyh_take (i := 17) [true, false, true, true, true, true] hS (fun _ h => h) rfl rfl (by kernel_rfl) (by kernel_rfl) (by kernel_rfl) rfl rfl (fun W' hS => run_add (t := (sumHi (dr.take (i + 1)))) hS rfl rfl (by exact hs.2.symm) (by omega) (by omega)) fun a hS => ?_
                      refine anyh_go (rs := [1]) (by kernel_rfl) (by simp) ⟨⟨_, rfl, ?_⟩, trivial⟩
                      refine st_v hS rfl rfl (run_load_one (i := 1) Try.isAgg3 hS rfl rfl rfl) fun a hS => wl_nil ?_
                      refine anyh_next [true, false, true, true, true, true] hS (fun _ h => h) rfl ?_
                      refine anyh_take (i := 8) [true, false, true, true, true, true] hS (fun _ h => h) rfl rfl (by kernel_rfl) (by kernel_rfl) (by kernel_rfl) rfl rfl (fun W' hS => run_add (t := (sumLo (dr.take (i + 1)))) hS rfl rfl (by exact hs.1.symm) (by omega) (by omega)) fun a hS => ?_
                      refine anyh_take (i := 18) [true, false, true, true, true, true] hS (fun _ h => h) rfl rfl (by kernel_rfl) (by kernel_rfl) (by kernel_rfl) rfl rfl (fun W' hS => run_fieldAddr fa34_0 hS rfl) fun a hS => ?_
                      refine anyh_go (rs := [19]) (by kernel_rfl) (by simp) ⟨⟨_, rfl, ?_⟩, trivial⟩
                      refine st_store (i := 1) Try.sizeOf3 hS rfl rfl rfl rfl rfl rfl rfl rfl rfl fun W a hS => wl_nil ?_
                      refine anyh_next [true, false, true, true, true, true] hS (fun _ h => h) rfl ?_
                      refine anyh_take (i := 20) [true, false, true, true, true, true] hS (fun _ h => h) rfl rfl (by kernel_rfl) (by kernel_rfl) (by kernel_rfl) rfl rfl (fun W' hS => run_fieldAddr fa34_1 hS rfl) fun a hS => ?_
                      refine anyh_go (rs := [21]) (by kernel_rfl) (by simp) ⟨⟨_, rfl, ?_⟩, trivial⟩
                      refine st_store (i := 1) Try.sizeOf3 hS rfl rfl rfl rfl rfl rfl rfl rfl rfl fun W a hS => wl_nil ?_
                      refine anyh_next [true, false, true, true, true, true] hS (fun _ h => h) rfl ?_
                      refine anyh_done (by kernel_rfl) ?_ _
                      exact cut_end (hS.sub (Sub.cons rfl (Sub.cons rfl (Sub.cons rfl (Sub.cons rfl (Sub.cons rfl (Sub.cons rfl (Sub.cons rfl (Sub.cons rfl (Sub.cons rfl (Sub.cons rfl (Sub.cons rfl (Sub.cons rfl (Sub.cons rfl (Sub.cons rfl Sub.nil)))))))))))))))
                  · skip
                    dsimp only [setB, List.foldl] at hS
                    refine wpIn_region_lit ?_
                    refine st_v hS rfl rfl (run_add (t := ((i + 1 : Nat) : Int)) hS rfl rfl (by omega) (by omega) (by omega)) fun a hS => st_v hS rfl rfl (run_move hS rfl) fun a hS => wl_nil ?_
                    refine ⟨i + 1, ⟨⟨by omega, fun j hj => ?_, by rw [hs.1]; omega, by rw [hs.2]; omega⟩, by omega⟩, (hS.sub (Sub.cons rfl (Sub.cons rfl (Sub.cons rfl (Sub.cons rfl (Sub.cons rfl (Sub.cons rfl (Sub.cons rfl (Sub.cons rfl (Sub.cons rfl (Sub.cons rfl (Sub.cons rfl (Sub.cons rfl Sub.nil))))))))))))).drop (List.Sublist.cons _ (List.Sublist.refl _))⟩
                    by_cases e : j = i
                    · subst e; exact hd
                    · exact hg j (by omega)
      · skip
        try simp only [decide_eq_true_eq, decide_eq_false_iff_not, Bool.not_eq_true', Bool.not_eq_false', bne_iff_ne, beq_iff_eq, bne_eq_false_iff_eq, beq_eq_false_iff_ne, ne_eq, Int.not_le, Int.not_lt, ge_iff_le, gt_iff_lt] at hc3
        
        refine wpIn_exit ?_
        refine wpIn_seq ?_
        refine wpIn_seq ?_
        refine wpIn_region_lit ?_
        refine st_v hS rfl rfl (run_load_all (i := 0) Try.isAgg34 Try.sizeOf34 hS rfl rfl rfl) fun a hS => st_call (rotor_valid (⟨(sumLo (dr.take i)), (sumHi (dr.take i))⟩ : Span)) Try.call93 hS rfl rfl rfl fun v W a hR hB hlt hS => ?_
        subst hR
        refine st_v hS rfl rfl (run_not hS rfl) fun a hS => wl_nil ?_
        refine st_cond hS rfl (fun hc9 => ?_) (fun hc9 => ?_)
        · skip
          try simp only [decide_eq_true_eq, decide_eq_false_iff_not, Bool.not_eq_true', Bool.not_eq_false', bne_iff_ne, beq_iff_eq, bne_eq_false_iff_eq, beq_eq_false_iff_ne, ne_eq, Int.not_le, Int.not_lt, ge_iff_le, gt_iff_lt] at hc9
          refine wpIn_seq ?_
          refine wpIn_region_lit ?_
          refine st_v hS rfl rfl (run_build (pv := []) (fun W => bd34_ W) hS rfl) fun a hS => st_store (i := 2) Try.sizeOf34 hS rfl rfl rfl rfl rfl rfl rfl rfl rfl fun W a hS => st_v hS rfl rfl (run_assign hS rfl) fun a hS => st_v hS rfl rfl (run_assign hS rfl) fun a hS => wl_nil ?_
          refine wpIn_ret ?_
          repeat (first | refine q_ret ?_ | refine q_block_ret ?_)
          refine hS.done (res3 (fn := Try.f45) (r1 := .cell 6 34) (r2 := .tmp 7) (r3 := .tmp 8) rfl (rv_agg (i := 2) Try.isAgg34 Try.sizeOf34 hS rfl rfl rfl) (rv_tmp hS rfl) (rv_tmp hS rfl)) ?_
          have e : dr.take i = dr := List.take_of_length_le (by omega)
          obtain ⟨e1, e2⟩ := desc_end hc1 (by omega) (fun j hj => hg j (by omega))
          have hk : (sumOf dr).ok = false := by rw [← e]; exact hc9
          exact t3d (p := ⟨0, 0⟩) (i := 0) (by rw [descV, e1, hk]; rfl) e2.symm (by rw [e1, hk]; rfl)
        · skip
          try simp only [decide_eq_true_eq, decide_eq_false_iff_not, Bool.not_eq_true', Bool.not_eq_false', bne_iff_ne, beq_iff_eq, bne_eq_false_iff_eq, beq_eq_false_iff_ne, ne_eq, Int.not_le, Int.not_lt, ge_iff_le, gt_iff_lt] at hc9
          refine wpIn_skip ?_
          refine wpIn_seq ?_
          refine wpIn_region_lit ?_
          refine st_v hS rfl rfl (run_load_all (i := 0) Try.isAgg34 Try.sizeOf34 hS rfl rfl rfl) fun a hS => st_store (i := 2) Try.sizeOf34 hS rfl rfl rfl rfl rfl rfl rfl rfl rfl fun W a hS => st_v hS rfl rfl (run_assign hS rfl) fun a hS => st_v hS rfl rfl (run_assign hS rfl) fun a hS => wl_nil ?_
          refine wpIn_ret ?_
          repeat (first | refine q_ret ?_ | refine q_block_ret ?_)
          refine hS.done (res3 (fn := Try.f45) (r1 := .cell 6 34) (r2 := .tmp 7) (r3 := .tmp 8) rfl (rv_agg (i := 2) Try.isAgg34 Try.sizeOf34 hS rfl rfl rfl) (rv_tmp hS rfl) (rv_tmp hS rfl)) ?_
          have e : dr.take i = dr := List.take_of_length_le (by omega)
          obtain ⟨e1, e2⟩ := desc_end hc1 (by omega) (fun j hj => hg j (by omega))
          have hk : (sumOf dr).ok = true := by rw [← e]; exact hc9
          exact t3d (p := sumOf (dr.take i)) (i := 0) (by rw [descV, e1, hk, e]; rfl) e2.symm (by rw [e1, hk]; rfl)


set_option maxHeartbeats 8000000 in
set_option maxRecDepth 100000 in
theorem ref02_Descent  (Vr : RV) (r : Rot) (A : Air) (sdr : SV) (dr : List Drop) {w : World} {Fr : Nat → Prop} (hr : RotR Fr w Vr r) {Fdr : Nat → Prop} (hdr : Sl kDrop Fdr w sdr dr)  : Ret Try.prog 46 [.agg (rotC Vr r).toArray, .agg (airC A).toArray, .slice sdr.a dr.length sdr.c] w (fun v _ => v = .tuple #[.agg (spanC (descV r A dr)).toArray, .int .i64 (descP r A dr), .int .i64 (descE r A dr)]) := by
  refine ret_start (n := 99) Try.func46 rfl rfl rfl (fun a hS => ?_)
  have Hr : ∀ W, Below w.heap.size w W → RotR Fr W Vr r := fun W hb => hr.move (keep_of hb)
  have Hdr : ∀ W, Below w.heap.size w W → Sl kDrop Fdr W sdr dr := fun W hb => hdr.at_ hb
  have hmdr := hdr.len
  refine wpIn_seq ?_
  refine wpIn_region_lit ?_
  refine st_box_agg hS rfl rfl rfl fun W a b0 hS => st_box_agg hS rfl rfl rfl fun W a b1 hS => st_alloc_agg Try.zeroValue34 hS rfl rfl fun W a b2 hS => st_v hS rfl rfl (run_assign hS rfl) fun a hS => st_v hS rfl rfl (run_assign hS rfl) fun a hS => wl_nil ?_
  refine wpIn_seq ?_
  refine wpIn_region_lit ?_
  refine st_v hS rfl rfl (run_load_all (i := 2) Try.isAgg27 Try.sizeOf27 hS rfl rfl rfl) fun a hS => st_v hS rfl rfl (run_load_all (i := 1) Try.isAgg36 Try.sizeOf36 hS rfl rfl rfl) fun a hS => st_call (ref02_CheckAir Vr r A (Hr _ hS.below)) Try.call24 hS rfl rfl rfl fun v W a hR hB hlt hS => ?_
  subst hR
  refine st_v hS rfl rfl (run_assign hS rfl) fun a hS => wl_nil ?_
  refine wpIn_seq ?_
  refine wpIn_seq ?_
  refine wpIn_region_lit ?_
  refine st_v hS rfl rfl (run_move hS rfl) fun a hS => st_v hS rfl rfl (run_bin hS rfl rfl rfl) fun a hS => wl_nil ?_
  refine st_cond hS rfl (fun hc1 => ?_) (fun hc1 => ?_)
  · skip
    try simp only [decide_eq_true_eq, decide_eq_false_iff_not, Bool.not_eq_true', Bool.not_eq_false', bne_iff_ne, beq_iff_eq, bne_eq_false_iff_eq, beq_eq_false_iff_ne, ne_eq, Int.not_le, Int.not_lt, ge_iff_le, gt_iff_lt] at hc1
    refine wpIn_seq ?_
    refine wpIn_region_lit ?_
    refine st_v hS rfl rfl (run_build (pv := []) (fun W => bd34_ W) hS rfl) fun a hS => st_v hS rfl rfl (run_move hS rfl) fun a hS => st_store (i := 0) Try.sizeOf34 hS rfl rfl rfl rfl rfl rfl rfl rfl rfl fun W a hS => st_v hS rfl rfl (run_assign hS rfl) fun a hS => st_v hS rfl rfl (run_assign hS rfl) fun a hS => wl_nil ?_
    refine wpIn_ret ?_
    repeat (first | refine q_ret ?_ | refine q_block_ret ?_)
    refine hS.done (res3 (fn := Try.f46) (r1 := .cell 6 34) (r2 := .tmp 7) (r3 := .tmp 8) rfl (rv_agg (i := 0) Try.isAgg34 Try.sizeOf34 hS rfl rfl rfl) (rv_tmp hS rfl) (rv_tmp hS rfl)) ?_
    have hE : descE r A dr = errC r A true := by unfold descE; rw [errC_t hc1, if_neg hc1]
    exact t3d (p := ⟨0, 0⟩) (i := 0) (by rw [descV, hE, if_neg hc1]) (by rw [descP, errC_t hc1, if_neg hc1]) hE.symm
  · skip
    try simp only [decide_eq_true_eq, decide_eq_false_iff_not, Bool.not_eq_true', Bool.not_eq_false', bne_iff_ne, beq_iff_eq, bne_eq_false_iff_eq, beq_eq_false_iff_ne, ne_eq, Int.not_le, Int.not_lt, ge_iff_le, gt_iff_lt] at hc1
    obtain ⟨hrok, haok, _⟩ := errC_ok hc1
    obtain ⟨hA1, hA2, hA3, hA4⟩ := (airOk_iff A).1 haok
    have hRp := rot_p hrok
    have hrl := ringOn_is A hRp
    refine wpIn_skip ?_
    refine wpIn_seq ?_
    refine wpIn_seq ?_
    refine wpIn_region_lit ?_
    refine st_v hS rfl rfl (run_fieldAddr fa27_5 hS rfl) fun a hS => st_v hS rfl rfl (run_fieldAddr fa25_1 hS rfl) fun a hS => st_v hS rfl rfl (run_load_one (i := 2) Try.isAgg22 hS rfl rfl rfl) fun a hS => st_v hS rfl rfl (run_fieldAddr fa36_0 hS rfl) fun a hS => st_v hS rfl rfl (run_load_agg (i := 1) (vs := [_, _]) Try.isAgg34 Try.sizeOf34 hS rfl rfl rfl ⟨rfl, rfl, trivial⟩) fun a hS => st_call (ref01_Between Vr.low.y r.low.Y A.weight ((fun W hC => ((fun W hC => (Hr W hC).low) W hC).2.1) _ hS.below) (by have := (tab_axes hRp.low.1).2.1.two; omega)) Try.call103 hS rfl rfl rfl fun v W a hR hB hlt hS => ?_
    subst hR
    refine st_v hS rfl rfl (run_not hS rfl) fun a hS => wl_nil ?_
    refine st_cond hS rfl (fun hc2 => ?_) (fun hc2 => ?_)
    · skip
      try simp only [decide_eq_true_eq, decide_eq_false_iff_not, Bool.not_eq_true', Bool.not_eq_false', bne_iff_ne, beq_iff_eq, bne_eq_false_iff_eq, beq_eq_false_iff_ne, ne_eq, Int.not_le, Int.not_lt, ge_iff_le, gt_iff_lt] at hc2
      refine wpIn_seq ?_
      refine wpIn_region_lit ?_
      refine st_v hS rfl rfl (run_build (pv := []) (fun W => bd34_ W) hS rfl) fun a hS => st_store (i := 0) Try.sizeOf34 hS rfl rfl rfl rfl rfl rfl rfl rfl rfl fun W a hS => st_v hS rfl rfl (run_assign hS rfl) fun a hS => st_v hS rfl rfl (run_assign hS rfl) fun a hS => wl_nil ?_
      refine wpIn_ret ?_
      repeat (first | refine q_ret ?_ | refine q_block_ret ?_)
      refine hS.done (res3 (fn := Try.f46) (r1 := .cell 6 34) (r2 := .tmp 7) (r3 := .tmp 8) rfl (rv_agg (i := 0) Try.isAgg34 Try.sizeOf34 hS rfl rfl rfl) (rv_tmp hS rfl) (rv_tmp hS rfl)) ?_
      have h1 : errC r A (ringOn r A) = 1 := errC_tf hrok haok (by rw [hrl]; exact hc2)
      have hE : descE r A dr = 1 := by unfold descE; rw [h1]; rfl
      exact t3d (p := ⟨0, 0⟩) (i := 0) (by rw [descV, hE]; rfl) (by rw [descP, h1]; rfl) hE.symm
    · skip
      try simp only [decide_eq_true_eq, decide_eq_false_iff_not, Bool.not_eq_true', Bool.not_eq_false', bne_iff_ne, beq_iff_eq, bne_eq_false_iff_eq, beq_eq_false_iff_ne, ne_eq, Int.not_le, Int.not_lt, ge_iff_le, gt_iff_lt] at hc2
      have hR0 : errC r A (ringOn r A) = 0 := errC_tt hrok haok (by rw [hrl]; exact hc2)
      refine wpIn_skip ?_
      refine wpIn_seq ?_
      refine wpIn_seq ?_
      refine wpIn_region_lit ?_
      refine st_v hS rfl rfl (run_move hS rfl) fun a hS => st_v hS rfl rfl (run_len_slice Try.underlying82 hS rfl) fun a hS => st_v hS rfl rfl (run_bin hS rfl rfl rfl) fun a hS => wl_nil ?_
      refine st_cond hS rfl (fun hc3 => ?_) (fun hc3 => ?_)
      · skip
        try simp only [decide_eq_true_eq, decide_eq_false_iff_not, Bool.not_eq_true', Bool.not_eq_false', bne_iff_ne, beq_iff_eq, bne_eq_false_iff_eq, beq_eq_false_iff_ne, ne_eq, Int.not_le, Int.not_lt, ge_iff_le, gt_iff_lt] at hc3
        refine wpIn_seq ?_
        refine wpIn_region_lit ?_
        refine st_v hS rfl rfl (run_build (pv := []) (fun W => bd34_ W) hS rfl) fun a hS => st_store (i := 0) Try.sizeOf34 hS rfl rfl rfl rfl rfl rfl rfl rfl rfl fun W a hS => st_v hS rfl rfl (run_assign hS rfl) fun a hS => st_v hS rfl rfl (run_assign hS rfl) fun a hS => wl_nil ?_
        refine wpIn_ret ?_
        repeat (first | refine q_ret ?_ | refine q_block_ret ?_)
        refine hS.done (res3 (fn := Try.f46) (r1 := .cell 6 34) (r2 := .tmp 7) (r3 := .tmp 8) rfl (rv_agg (i := 0) Try.isAgg34 Try.sizeOf34 hS rfl rfl rfl) (rv_tmp hS rfl) (rv_tmp hS rfl)) ?_
        have hE : descE r A dr = 2 := by unfold descE; rw [if_pos hR0, if_pos (by omega)]
        exact t3d (p := ⟨0, 0⟩) (i := 0) (by rw [descV, hE]; rfl) (by rw [descP, if_pos hR0, if_pos (by omega)]) hE.symm
      · skip
        try simp only [decide_eq_true_eq, decide_eq_false_iff_not, Bool.not_eq_true', Bool.not_eq_false', bne_iff_ne, beq_iff_eq, bne_eq_false_iff_eq, beq_eq_false_iff_ne, ne_eq, Int.not_le, Int.not_lt, ge_iff_le, gt_iff_lt] at hc3
        
        refine wpIn_skip ?_
        refine wpIn_seq ?_
        refine wpIn_region_lit ?_
        refine st_v hS rfl rfl (run_build (pv := []) (fun W => bd34_ W) hS rfl) fun a hS => st_alloc_agg Try.zeroValue34 hS rfl rfl fun W a b3 hS => st_store (i := 0) Try.sizeOf34 hS rfl rfl rfl rfl rfl rfl rfl rfl rfl fun W a hS => wl_nil ?_
        refine wpIn_seq ?_
        refine wpIn_seq ?_
        refine wpIn_region_lit ?_
        refine st_v hS rfl rfl (run_assign hS rfl) fun a hS => wl_nil ?_
        refine wpIn_block ?_
        refine st_loop2 (α := Nat) (fun i => [(11, .int .i64 (((i : Nat) : Int)))]) [(0, _), (1, _), (2, _), (3, _), (4, _), (6, _), (9, _), (10, _)] (fun l i => setB (l) 0 [.int .i64 (sumLo (dr.take i)), .int .i64 (sumHi (dr.take i))]) (fun i => i ≤ dr.length ∧ (∀ j, j < i → dropE r A (dropAt dr j) = 0) ∧ (-(i : Int) * 1000000000 ≤ sumLo (dr.take i) ∧ sumLo (dr.take i) ≤ (i : Int) * 1000000000) ∧ (-(i : Int) * 1000000000 ≤ sumHi (dr.take i) ∧ sumHi (dr.take i) ≤ (i : Int) * 1000000000)) (fun i => dr.length - i) (0) hS (Sub.cons rfl (Sub.cons rfl (Sub.cons rfl (Sub.cons rfl (Sub.cons rfl (Sub.cons rfl (Sub.cons rfl (Sub.cons rfl (Sub.cons rfl Sub.nil))))))))) rfl (⟨Nat.zero_le _, fun j hj => absurd hj (Nat.not_lt_zero j), by simp [sumLo], by simp [sumHi]⟩) (fun i W a hφ hS => ?_)
        dsimp only [setB, List.cons_append, List.nil_append, List.take] at hS
        obtain ⟨hi, hg, hb1, hb2⟩ := hφ
        refine wpIn_seq ?_
        refine wpIn_seq ?_
        refine wpIn_region_lit ?_
        refine st_v hS rfl rfl (run_move hS rfl) fun a hS => st_v hS rfl rfl (run_move hS rfl) fun a hS => st_v hS rfl rfl (run_len_slice Try.underlying82 hS rfl) fun a hS => st_v hS rfl rfl (run_bin hS rfl rfl rfl) fun a hS => wl_nil ?_
        refine st_cond hS rfl (fun hc4 => ?_) (fun hc4 => ?_)
        · skip
          try simp only [decide_eq_true_eq, decide_eq_false_iff_not, Bool.not_eq_true', Bool.not_eq_false', bne_iff_ne, beq_iff_eq, bne_eq_false_iff_eq, beq_eq_false_iff_ne, ne_eq, Int.not_le, Int.not_lt, ge_iff_le, gt_iff_lt] at hc4
          
          refine wpIn_skip ?_
          refine wpIn_seq ?_
          refine wpIn_block ?_
          refine wpIn_seq ?_
          refine wpIn_region_lit ?_
          refine st_v hS rfl rfl (run_move hS rfl) fun a hS => st_v hS rfl rfl (run_move hS rfl) fun a hS => ?_
          obtain ⟨ad0, hA0, hL0⟩ := sl_of Hdr (Below.refl _ _) dropD (i := ((i : Nat) : Int)) (j := i) (by omega) (by omega)
          refine st_v hS rfl rfl (run_indexAddr Try.underlying82 Try.sizeOf88 hS rfl rfl hA0 (by omega) (by omega)) fun a hS => st_v hS rfl rfl (run_load_ext Try.isAgg88 Try.sizeOf88 hS rfl rfl (hL0 _ hS.below)) fun a hS => st_alloc_agg Try.zeroValue88 hS rfl rfl fun W a b4 hS => st_store (cs' := [.int .i64 ((((dropAt dr (i))).speed).lo), .int .i64 ((((dropAt dr (i))).speed).hi), .int .i64 ((((dropAt dr (i))).sink).lo), .int .i64 ((((dropAt dr (i))).sink).hi), .int .i64 (((dropAt dr (i))).ticks)]) (i := 0) Try.sizeOf88 hS rfl rfl rfl rfl rfl rfl rfl rfl rfl fun W a hS => wl_nil ?_
          refine wpIn_seq ?_
          refine wpIn_seq ?_
          refine wpIn_region_lit ?_
          refine st_v hS rfl rfl (run_fieldAddr fa88_2 hS rfl) fun a hS => st_v hS rfl rfl (run_load_one (i := 0) Try.isAgg3 hS rfl rfl rfl) fun a hS => st_call (ref02_from) Try.call62 hS rfl rfl rfl fun v W a hR hB hlt hS => ?_
          subst hR
          refine st_v hS rfl rfl (run_not hS rfl) fun a hS => st_v hS rfl rfl (run_move hS rfl) fun a hS => ?_
          refine st_split (d := 47) hS rfl (fun hc5 hS => ?_) (fun hc5 hS => ?_)
          · skip
            try simp only [decide_eq_true_eq, decide_eq_false_iff_not, Bool.not_eq_true', Bool.not_eq_false', bne_iff_ne, beq_iff_eq, bne_eq_false_iff_eq, beq_eq_false_iff_ne, ne_eq, Int.not_le, Int.not_lt, ge_iff_le, gt_iff_lt] at hc5
            refine st_skip hS (hS.unwanted rfl rfl rfl rfl) rfl fun a hS => st_skip hS (hS.unwanted rfl rfl rfl rfl) rfl fun a hS => st_skip hS (hS.unwanted rfl rfl rfl rfl) rfl fun a hS => st_skip hS (hS.unwanted rfl rfl rfl rfl) rfl fun a hS => st_v hS rfl rfl (run_pick_t hS rfl rfl) fun a hS => st_v hS rfl rfl (run_move hS rfl) fun a hS => st_skip hS (hS.unwanted rfl rfl rfl rfl) rfl fun a hS => st_skip hS (hS.unwanted rfl rfl rfl rfl) rfl fun a hS => st_skip hS (hS.unwanted rfl rfl rfl rfl) rfl fun a hS => st_skip hS (hS.unwanted rfl rfl rfl rfl) rfl fun a hS => st_skip hS (hS.unwanted rfl rfl rfl rfl) rfl fun a hS => st_skip hS (hS.unwanted rfl rfl rfl rfl) rfl fun a hS => st_skip hS (hS.unwanted rfl rfl rfl rfl) rfl fun a hS => st_skip hS (hS.unwanted rfl rfl rfl rfl) rfl fun a hS => st_v hS rfl rfl (run_pick_t hS rfl rfl) fun a hS => wl_nil ?_
            have hS := hS.sub (κ' := [(0, _), (1, _), (2, _), (3, _), (4, _), (6, _), (9, _), (10, _), (11, _), (12, _), (62, _)]) (Sub.cons rfl (Sub.cons rfl (Sub.cons rfl (Sub.cons rfl (Sub.cons rfl (Sub.cons rfl (Sub.cons rfl (Sub.cons rfl (Sub.cons rfl (Sub.cons rfl (Sub.cons rfl Sub.nil)))))))))))
            refine st_cond_t hS rfl ?_
            refine wpIn_seq ?_
            refine wpIn_region_lit ?_
            refine st_v hS rfl rfl (run_build (pv := []) (fun W => bd34_ W) hS rfl) fun a hS => st_v hS rfl rfl (run_move hS rfl) fun a hS => st_store (i := 2) Try.sizeOf34 hS rfl rfl rfl rfl rfl rfl rfl rfl rfl fun W a hS => st_v hS rfl rfl (run_assign hS rfl) fun a hS => st_v hS rfl rfl (run_assign hS rfl) fun a hS => wl_nil ?_
            refine wpIn_ret ?_
            repeat (first | refine q_ret ?_ | refine q_block_ret ?_)
            refine hS.done (res3 (fn := Try.f46) (r1 := .cell 6 34) (r2 := .tmp 7) (r3 := .tmp 8) rfl (rv_agg (i := 2) Try.isAgg34 Try.sizeOf34 hS rfl rfl rfl) (rv_tmp hS rfl) (rv_tmp hS rfl)) ?_
            have hd : dropE r A (dropAt dr i) = 1 := by simp [dropE, dropOk, hc1, hc2, hc3, hc4, hc5]
            obtain ⟨e1, e2, e3⟩ := desc_bad hR0 (by omega) (by omega) hg (by rw [hd]; decide)
            exact t3d e3.symm e2.symm (by rw [e1, hd])
          · skip
            try simp only [decide_eq_true_eq, decide_eq_false_iff_not, Bool.not_eq_true', Bool.not_eq_false', bne_iff_ne, beq_iff_eq, bne_eq_false_iff_eq, beq_eq_false_iff_ne, ne_eq, Int.not_le, Int.not_lt, ge_iff_le, gt_iff_lt] at hc5
            
            refine st_v hS (hS.wanted rfl rfl rfl) rfl (run_fieldAddr fa88_1 hS rfl) fun a hS => st_v hS (hS.wanted rfl rfl rfl) rfl (run_load_agg (i := 0) (vs := [_, _]) Try.isAgg34 Try.sizeOf34 hS rfl rfl rfl ⟨rfl, rfl, trivial⟩) fun a hS => st_call (ref01_Valid (((dropAt dr (i))).sink)) Try.call25 hS (hS.wanted rfl rfl rfl) rfl rfl fun v W a hR hB hlt hS => ?_
            subst hR
            refine st_v hS (hS.wanted rfl rfl rfl) rfl (run_not hS rfl) fun a hS => st_v hS rfl rfl (run_pick_f hS rfl rfl) fun a hS => st_v hS rfl rfl (run_move hS rfl) fun a hS => ?_
            refine st_split (d := 53) hS rfl (fun hc6 hS => ?_) (fun hc6 hS => ?_)
            · skip
              try simp only [decide_eq_true_eq, decide_eq_false_iff_not, Bool.not_eq_true', Bool.not_eq_false', bne_iff_ne, beq_iff_eq, bne_eq_false_iff_eq, beq_eq_false_iff_ne, ne_eq, Int.not_le, Int.not_lt, ge_iff_le, gt_iff_lt] at hc6
              refine st_skip hS (hS.unwanted rfl rfl rfl rfl) rfl fun a hS => st_skip hS (hS.unwanted rfl rfl rfl rfl) rfl fun a hS => st_skip hS (hS.unwanted rfl rfl rfl rfl) rfl fun a hS => st_skip hS (hS.unwanted rfl rfl rfl rfl) rfl fun a hS => st_skip hS (hS.unwanted rfl rfl rfl rfl) rfl fun a hS => st_skip hS (hS.unwanted rfl rfl rfl rfl) rfl fun a hS => st_skip hS (hS.unwanted rfl rfl rfl rfl) rfl fun a hS => st_skip hS (hS.unwanted rfl rfl rfl rfl) rfl fun a hS => st_v hS rfl rfl (run_pick_t hS rfl rfl) fun a hS => wl_nil ?_
              have hS := hS.sub (κ' := [(0, _), (1, _), (2, _), (3, _), (4, _), (6, _), (9, _), (10, _), (11, _), (12, _), (62, _)]) (Sub.cons rfl (Sub.cons rfl (Sub.cons rfl (Sub.cons rfl (Sub.cons rfl (Sub.cons rfl (Sub.cons rfl (Sub.cons rfl (Sub.cons rfl (Sub.cons rfl (Sub.cons rfl Sub.nil)))))))))))
              refine st_cond_t hS rfl ?_
              refine wpIn_seq ?_
              refine wpIn_region_lit ?_
              refine st_v hS rfl rfl (run_build (pv := []) (fun W => bd34_ W) hS rfl) fun a hS => st_v hS rfl rfl (run_move hS rfl) fun a hS => st_store (i := 2) Try.sizeOf34 hS rfl rfl rfl rfl rfl rfl rfl rfl rfl fun W a hS => st_v hS rfl rfl (run_assign hS rfl) fun a hS => st_v hS rfl rfl (run_assign hS rfl) fun a hS => wl_nil ?_
              refine wpIn_ret ?_
              repeat (first | refine q_ret ?_ | refine q_block_ret ?_)
              refine hS.done (res3 (fn := Try.f46) (r1 := .cell 6 34) (r2 := .tmp 7) (r3 := .tmp 8) rfl (rv_agg (i := 2) Try.isAgg34 Try.sizeOf34 hS rfl rfl rfl) (rv_tmp hS rfl) (rv_tmp hS rfl)) ?_
              have hd : dropE r A (dropAt dr i) = 1 := by simp [dropE, dropOk, hc1, hc2, hc3, hc4, hc5, hc6]
              obtain ⟨e1, e2, e3⟩ := desc_bad hR0 (by omega) (by omega) hg (by rw [hd]; decide)
              exact t3d e3.symm e2.symm (by rw [e1, hd])
            · skip
              try simp only [decide_eq_true_eq, decide_eq_false_iff_not, Bool.not_eq_true', Bool.not_eq_false', bne_iff_ne, beq_iff_eq, bne_eq_false_iff_eq, beq_eq_false_iff_ne, ne_eq, Int.not_le, Int.not_lt, ge_iff_le, gt_iff_lt] at hc6
              
              refine st_v hS (hS.wanted rfl rfl rfl) rfl (run_fieldAddr fa27_5 hS rfl) fun a hS => st_v hS (hS.wanted rfl rfl rfl) rfl (run_load_agg (i := 4) (vs := [_, _, _]) Try.isAgg25 Try.sizeOf25 hS rfl rfl rfl ⟨rfl, rfl, rfl, trivial⟩) fun a hS => st_v hS (hS.wanted rfl rfl rfl) rfl (run_fieldAddr fa88_0 hS rfl) fun a hS => st_v hS (hS.wanted rfl rfl rfl) rfl (run_load_agg (i := 0) (vs := [_, _]) Try.isAgg34 Try.sizeOf34 hS rfl rfl rfl ⟨rfl, rfl, trivial⟩) fun a hS => st_v hS (hS.wanted rfl rfl rfl) rfl (run_fieldAddr fa36_0 hS rfl) fun a hS => st_v hS (hS.wanted rfl rfl rfl) rfl (run_load_agg (i := 3) (vs := [_, _]) Try.isAgg34 Try.sizeOf34 hS rfl rfl rfl ⟨rfl, rfl, trivial⟩) fun a hS => st_call (ref02_lies Vr.low r.low (((dropAt dr (i))).speed) A.weight ((fun W hC => (Hr W hC).low) _ hS.below) (by exact hRp.low.1)) Try.call75 hS (hS.wanted rfl rfl rfl) rfl rfl fun v W a hR hB hlt hS => ?_
              subst hR
              refine st_v hS (hS.wanted rfl rfl rfl) rfl (run_not hS rfl) fun a hS => st_v hS rfl rfl (run_pick_f hS rfl rfl) fun a hS => wl_nil ?_
              have hS := hS.sub (κ' := [(0, _), (1, _), (2, _), (3, _), (4, _), (6, _), (9, _), (10, _), (11, _), (12, _), (62, _)]) (Sub.cons rfl (Sub.cons rfl (Sub.cons rfl (Sub.cons rfl (Sub.cons rfl (Sub.cons rfl (Sub.cons rfl (Sub.cons rfl (Sub.cons rfl (Sub.cons rfl (Sub.cons rfl Sub.nil)))))))))))
              refine st_cond hS rfl (fun hc7 => ?_) (fun hc7 => ?_)
              · skip
                try simp only [decide_eq_true_eq, decide_eq_false_iff_not, Bool.not_eq_true', Bool.not_eq_false', bne_iff_ne, beq_iff_eq, bne_eq_false_iff_eq, beq_eq_false_iff_ne, ne_eq, Int.not_le, Int.not_lt, ge_iff_le, gt_iff_lt] at hc7
                refine wpIn_seq ?_
                refine wpIn_region_lit ?_
                refine st_v hS rfl rfl (run_build (pv := []) (fun W => bd34_ W) hS rfl) fun a hS => st_v hS rfl rfl (run_move hS rfl) fun a hS => st_store (i := 2) Try.sizeOf34 hS rfl rfl rfl rfl rfl rfl rfl rfl rfl fun W a hS => st_v hS rfl rfl (run_assign hS rfl) fun a hS => st_v hS rfl rfl (run_assign hS rfl) fun a hS => wl_nil ?_
                refine wpIn_ret ?_
                repeat (first | refine q_ret ?_ | refine q_block_ret ?_)
                refine hS.done (res3 (fn := Try.f46) (r1 := .cell 6 34) (r2 := .tmp 7) (r3 := .tmp 8) rfl (rv_agg (i := 2) Try.isAgg34 Try.sizeOf34 hS rfl rfl rfl) (rv_tmp hS rfl) (rv_tmp hS rfl)) ?_
                have hdo : dropOk r A (dropAt dr i) = false := by
                  revert hc7
                  unfold dropOk
                  cases (dropAt dr i).speed.ok <;> cases liesT r.low (dropAt dr i).speed A.weight <;> simp [hA1]
                have hd : dropE r A (dropAt dr i) = 1 := by simp [dropE, hdo]
                obtain ⟨e1, e2, e3⟩ := desc_bad hR0 (by omega) (by omega) hg (by rw [hd]; decide)
                exact t3d e3.symm e2.symm (by rw [e1, hd])
              · skip
                try simp only [decide_eq_true_eq, decide_eq_false_iff_not, Bool.not_eq_true', Bool.not_eq_false', bne_iff_ne, beq_iff_eq, bne_eq_false_iff_eq, beq_eq_false_iff_ne, ne_eq, Int.not_le, Int.not_lt, ge_iff_le, gt_iff_lt] at hc7
                have hdo : dropOk r A (dropAt dr i) = true := by
                  revert hc7
                  unfold dropOk
                  cases (dropAt dr i).speed.ok <;> cases liesT r.low (dropAt dr i).speed A.weight <;> simp [hA1, hc5, hc6]
                obtain ⟨hti, hsp, hsi, hli⟩ := dropOk_parts hdo
                have hon : onRing r A (dropAt dr i).speed = true := by simp [onRing, hsp, hli]
                refine wpIn_skip ?_
                refine wpIn_seq ?_
                refine wpIn_seq ?_
                refine wpIn_region_lit ?_
                refine st_v hS rfl rfl (run_load_all (i := 4) Try.isAgg27 Try.sizeOf27 hS rfl rfl rfl) fun a hS => st_v hS rfl rfl (run_load_all (i := 3) Try.isAgg36 Try.sizeOf36 hS rfl rfl rfl) fun a hS => st_v hS rfl rfl (run_fieldAddr fa88_0 hS rfl) fun a hS => st_v hS rfl rfl (run_load_agg (i := 0) (vs := [_, _]) Try.isAgg34 Try.sizeOf34 hS rfl rfl rfl ⟨rfl, rfl, trivial⟩) fun a hS => st_v hS rfl rfl (run_fieldAddr fa88_1 hS rfl) fun a hS => st_v hS rfl rfl (run_load_agg (i := 0) (vs := [_, _]) Try.isAgg34 Try.sizeOf34 hS rfl rfl rfl ⟨rfl, rfl, trivial⟩) fun a hS => st_call (ref02_wake Vr r A (((dropAt dr (i))).speed) (((dropAt dr (i))).sink) (Hr _ hS.below) (by assumption) (by assumption) (by exact hon)) Try.call76 hS rfl rfl rfl fun v W a hR hB hlt hS => ?_
                subst hR
                refine wl_nil ?_
                refine st_cond hS rfl (fun hc8 => ?_) (fun hc8 => ?_)
                · skip
                  try simp only [decide_eq_true_eq, decide_eq_false_iff_not, Bool.not_eq_true', Bool.not_eq_false', bne_iff_ne, beq_iff_eq, bne_eq_false_iff_eq, beq_eq_false_iff_ne, ne_eq, Int.not_le, Int.not_lt, ge_iff_le, gt_iff_lt] at hc8
                  refine wpIn_seq ?_
                  refine wpIn_region_lit ?_
                  refine st_v hS rfl rfl (run_build (pv := []) (fun W => bd34_ W) hS rfl) fun a hS => st_v hS rfl rfl (run_move hS rfl) fun a hS => st_store (i := 2) Try.sizeOf34 hS rfl rfl rfl rfl rfl rfl rfl rfl rfl fun W a hS => st_v hS rfl rfl (run_assign hS rfl) fun a hS => st_v hS rfl rfl (run_assign hS rfl) fun a hS => wl_nil ?_
                  refine wpIn_ret ?_
                  repeat (first | refine q_ret ?_ | refine q_block_ret ?_)
                  refine hS.done (res3 (fn := Try.f46) (r1 := .cell 6 34) (r2 := .tmp 7) (r3 := .tmp 8) rfl (rv_agg (i := 2) Try.isAgg34 Try.sizeOf34 hS rfl rfl rfl) (rv_tmp hS rfl) (rv_tmp hS rfl)) ?_
                  have hd : dropE r A (dropAt dr i) = 22 := by simp [dropE, hdo, hc1, hc2, hc3, hc4, hc5, hc6, hc7, hc8]
                  obtain ⟨e1, e2, e3⟩ := desc_bad hR0 (by omega) (by omega) hg (by rw [hd]; decide)
                  exact t3d e3.symm e2.symm (by rw [e1, hd])
                · skip
                  try simp only [decide_eq_true_eq, decide_eq_false_iff_not, Bool.not_eq_true', Bool.not_eq_false', bne_iff_ne, beq_iff_eq, bne_eq_false_iff_eq, beq_eq_false_iff_ne, ne_eq, Int.not_le, Int.not_lt, ge_iff_le, gt_iff_lt] at hc8
                  have hd : dropE r A (dropAt dr i) = 0 := by simp [dropE, hdo, hc1, hc2, hc3, hc4, hc5, hc6, hc7, hc8]
                  have hsi' := (Span.ok_iff _).1 hsi
                  have hm1 := prod_abs (x := (dropAt dr i).sink.lo) (y := (dropAt dr i).ticks) (by omega) hti; have hm2 := prod_abs (x := (dropAt dr i).sink.hi) (y := (dropAt dr i).ticks) (by omega) hti
                  have hs := sum_take (l := dr) (i := i) (by omega)
                  refine wpIn_skip ?_
                  refine wpIn_seq ?_
                  refine wpIn_region_lit ?_
                  refine st_v hS rfl rfl (run_fieldAddr fa34_0 hS rfl) fun a hS => st_v hS rfl rfl (run_load_one (i := 1) Try.isAgg3 hS rfl rfl rfl) fun a hS => st_v hS rfl rfl (run_fieldAddr fa88_1 hS rfl) fun a hS => st_v hS rfl rfl (run_fieldAddr fa34_0 hS rfl) fun a hS => st_v hS rfl rfl (run_load_one (i := 0) Try.isAgg3 hS rfl rfl rfl) fun a hS => st_v hS rfl rfl (run_fieldAddr fa88_2 hS rfl) fun a hS => st_v hS rfl rfl (run_load_one (i := 0) Try.isAgg3 hS rfl rfl rfl) fun a hS => st_v hS rfl rfl (run_mul (t := ((dropAt dr i).sink.lo * (dropAt dr i).ticks)) hS rfl rfl (by rfl) (by omega)) fun a hS => st_v hS rfl rfl (run_add (t := (sumLo (dr.take (i + 1)))) hS rfl rfl (by exact hs.1.symm) (by omega) (by omega)) fun a hS => st_v hS rfl rfl (run_fieldAddr fa34_0 hS rfl) fun a hS => st_store (i := 1) Try.sizeOf3 hS rfl rfl rfl rfl rfl rfl rfl rfl rfl fun W a hS => wl_nil ?_
                  refine wpIn_region_lit ?_
                  refine st_v hS rfl rfl (run_fieldAddr fa34_1 hS rfl) fun a hS => st_v hS rfl rfl (run_load_one (i := 1) Try.isAgg3 hS rfl rfl rfl) fun a hS => st_v hS rfl rfl (run_fieldAddr fa88_1 hS rfl) fun a hS => st_v hS rfl rfl (run_fieldAddr fa34_1 hS rfl) fun a hS => st_v hS rfl rfl (run_load_one (i := 0) Try.isAgg3 hS rfl rfl rfl) fun a hS => st_v hS rfl rfl (run_fieldAddr fa88_2 hS rfl) fun a hS => st_v hS rfl rfl (run_load_one (i := 0) Try.isAgg3 hS rfl rfl rfl) fun a hS => st_v hS rfl rfl (run_mul (t := ((dropAt dr i).sink.hi * (dropAt dr i).ticks)) hS rfl rfl (by rfl) (by omega)) fun a hS => st_v hS rfl rfl (run_add (t := (sumHi (dr.take (i + 1)))) hS rfl rfl (by exact hs.2.symm) (by omega) (by omega)) fun a hS => st_v hS rfl rfl (run_fieldAddr fa34_1 hS rfl) fun a hS => st_store (i := 1) Try.sizeOf3 hS rfl rfl rfl rfl rfl rfl rfl rfl rfl fun W a hS => wl_nil ?_
                  have hS := hS.sub (κ' := [(0, _), (1, _), (2, _), (3, _), (4, _), (6, _), (9, _), (10, _), (11, _), (12, _), (93, _)]) (Sub.cons rfl (Sub.cons rfl (Sub.cons rfl (Sub.cons rfl (Sub.cons rfl (Sub.cons rfl (Sub.cons rfl (Sub.cons rfl (Sub.cons rfl (Sub.cons rfl (Sub.cons rfl Sub.nil)))))))))))
                  refine wpIn_region_lit ?_
                  refine st_v hS rfl rfl (run_move hS rfl) fun a hS => st_v hS rfl rfl (run_add (t := ((i + 1 : Nat) : Int)) hS rfl rfl (by omega) (by omega) (by omega)) fun a hS => st_v hS rfl rfl (run_assign hS rfl) fun a hS => wl_nil ?_
                  refine ⟨i + 1, ⟨⟨by omega, fun j hj => ?_, by rw [hs.1]; omega, by rw [hs.2]; omega⟩, by omega⟩, (hS.sub (Sub.cons rfl (Sub.cons rfl (Sub.cons rfl (Sub.cons rfl (Sub.cons rfl (Sub.cons rfl (Sub.cons rfl (Sub.cons rfl (Sub.cons rfl Sub.nil)))))))))).drop (List.Sublist.cons _ (List.Sublist.refl _))⟩
                  by_cases e : j = i
                  · subst e; exact hd
                  · exact hg j (by omega)
        · skip
          try simp only [decide_eq_true_eq, decide_eq_false_iff_not, Bool.not_eq_true', Bool.not_eq_false', bne_iff_ne, beq_iff_eq, bne_eq_false_iff_eq, beq_eq_false_iff_ne, ne_eq, Int.not_le, Int.not_lt, ge_iff_le, gt_iff_lt] at hc4
          
          refine wpIn_exit ?_
          refine wpIn_seq ?_
          refine wpIn_seq ?_
          refine wpIn_region_lit ?_
          refine st_v hS rfl rfl (run_load_all (i := 0) Try.isAgg34 Try.sizeOf34 hS rfl rfl rfl) fun a hS => st_call (ref01_Valid (⟨(sumLo (dr.take i)), (sumHi (dr.take i))⟩ : Span)) Try.call25 hS rfl rfl rfl fun v W a hR hB hlt hS => ?_
          subst hR
          refine st_v hS rfl rfl (run_not hS rfl) fun a hS => wl_nil ?_
          refine st_cond hS rfl (fun hc9 => ?_) (fun hc9 => ?_)
          · skip
            try simp only [decide_eq_true_eq, decide_eq_false_iff_not, Bool.not_eq_true', Bool.not_eq_false', bne_iff_ne, beq_iff_eq, bne_eq_false_iff_eq, beq_eq_false_iff_ne, ne_eq, Int.not_le, Int.not_lt, ge_iff_le, gt_iff_lt] at hc9
            refine wpIn_seq ?_
            refine wpIn_region_lit ?_
            refine st_v hS rfl rfl (run_build (pv := []) (fun W => bd34_ W) hS rfl) fun a hS => st_store (i := 1) Try.sizeOf34 hS rfl rfl rfl rfl rfl rfl rfl rfl rfl fun W a hS => st_v hS rfl rfl (run_assign hS rfl) fun a hS => st_v hS rfl rfl (run_assign hS rfl) fun a hS => wl_nil ?_
            refine wpIn_ret ?_
            repeat (first | refine q_ret ?_ | refine q_block_ret ?_)
            refine hS.done (res3 (fn := Try.f46) (r1 := .cell 6 34) (r2 := .tmp 7) (r3 := .tmp 8) rfl (rv_agg (i := 1) Try.isAgg34 Try.sizeOf34 hS rfl rfl rfl) (rv_tmp hS rfl) (rv_tmp hS rfl)) ?_
            have e : dr.take i = dr := List.take_of_length_le (by omega)
            obtain ⟨e1, e2⟩ := desc_end hR0 (by omega) (fun j hj => hg j (by omega))
            have hk : (sumOf dr).ok = false := by rw [← e]; exact hc9
            exact t3d (p := ⟨0, 0⟩) (i := 0) (by rw [descV, e1, hk]; rfl) e2.symm (by rw [e1, hk]; rfl)
          · skip
            try simp only [decide_eq_true_eq, decide_eq_false_iff_not, Bool.not_eq_true', Bool.not_eq_false', bne_iff_ne, beq_iff_eq, bne_eq_false_iff_eq, beq_eq_false_iff_ne, ne_eq, Int.not_le, Int.not_lt, ge_iff_le, gt_iff_lt] at hc9
            refine wpIn_skip ?_
            refine wpIn_seq ?_
            refine wpIn_region_lit ?_
            refine st_v hS rfl rfl (run_load_all (i := 0) Try.isAgg34 Try.sizeOf34 hS rfl rfl rfl) fun a hS => st_store (i := 1) Try.sizeOf34 hS rfl rfl rfl rfl rfl rfl rfl rfl rfl fun W a hS => st_v hS rfl rfl (run_assign hS rfl) fun a hS => st_v hS rfl rfl (run_assign hS rfl) fun a hS => wl_nil ?_
            refine wpIn_ret ?_
            repeat (first | refine q_ret ?_ | refine q_block_ret ?_)
            refine hS.done (res3 (fn := Try.f46) (r1 := .cell 6 34) (r2 := .tmp 7) (r3 := .tmp 8) rfl (rv_agg (i := 1) Try.isAgg34 Try.sizeOf34 hS rfl rfl rfl) (rv_tmp hS rfl) (rv_tmp hS rfl)) ?_
            have e : dr.take i = dr := List.take_of_length_le (by omega)
            obtain ⟨e1, e2⟩ := desc_end hR0 (by omega) (fun j hj => hg j (by omega))
            have hk : (sumOf dr).ok = true := by rw [← e]; exact hc9
            exact t3d (p := sumOf (dr.take i)) (i := 0) (by rw [descV, e1, hk, e]; rfl) e2.symm (by rw [e1, hk]; rfl)


set_option maxHeartbeats 8000000 in
set_option maxRecDepth 100000 in
theorem law_RotorDescends  (Vr : RV) (r : Rot) (A : Air) (sdr : SV) (dr : List Drop) {w : World} {Fr : Nat → Prop} (hr : RotR Fr w Vr r) {Fdr : Nat → Prop} (hdr : Sl kDrop Fdr w sdr dr)  : Ret Try.prog 11 [.agg (rotC Vr r).toArray, .agg (airC A).toArray, .slice sdr.a dr.length sdr.c] w (fun v _ => v = .bool true) := by
  refine ret_start (n := 56) Try.func11 rfl rfl rfl (fun a hS => ?_)
  have Hr : ∀ W, Below w.heap.size w W → RotR Fr W Vr r := fun W hb => hr.move (keep_of hb)
  have Hdr : ∀ W, Below w.heap.size w W → Sl kDrop Fdr W sdr dr := fun W hb => hdr.at_ hb
  have hmdr := hdr.len
  refine wpIn_seq ?_
  refine wpIn_region_lit ?_
  refine st_box_agg hS rfl rfl rfl fun W a b0 hS => st_box_agg hS rfl rfl rfl fun W a b1 hS => st_v hS rfl rfl (run_assign hS rfl) fun a hS => wl_nil ?_
  refine wpIn_seq ?_
  refine wpIn_seq ?_
  refine wpIn_region_lit ?_
  refine st_v hS rfl rfl (run_load_all (i := 1) Try.isAgg27 Try.sizeOf27 hS rfl rfl rfl) fun a hS => st_call (law02_Far Vr r (Hr _ hS.below)) Try.call15 hS rfl rfl rfl fun v W a hR hB hlt hS => ?_
  subst hR
  refine st_v hS rfl rfl (run_move hS rfl) fun a hS => ?_
  refine st_split (d := 15) hS rfl (fun hc1 hS => ?_) (fun hc1 hS => ?_)
  · skip
    try simp only [decide_eq_true_eq, decide_eq_false_iff_not, Bool.not_eq_true', Bool.not_eq_false', bne_iff_ne, beq_iff_eq, bne_eq_false_iff_eq, beq_eq_false_iff_ne, ne_eq, Int.not_le, Int.not_lt, ge_iff_le, gt_iff_lt] at hc1
    refine st_skip hS (hS.unwanted rfl rfl rfl rfl) rfl fun a hS => st_skip hS (hS.unwanted rfl rfl rfl rfl) rfl fun a hS => st_skip hS (hS.unwanted rfl rfl rfl rfl) rfl fun a hS => st_v hS rfl rfl (run_pick_t hS rfl rfl) fun a hS => wl_nil ?_
    refine st_cond_t hS rfl ?_
    refine wpIn_seq ?_
    refine wpIn_region_lit ?_
    refine st_call (law02_works) Try.call16 hS rfl rfl rfl fun v W a hR hB hlt hS => ?_
    subst hR
    refine st_v hS rfl rfl (run_assign hS rfl) fun a hS => wl_nil ?_
    refine wpIn_ret ?_
    repeat (first | refine q_ret ?_ | refine q_block_ret ?_)
    refine hS.done (res1 (fn := Try.f11) (r1 := .tmp 6) rfl (rv_tmp hS rfl)) ?_
    rfl
  · skip
    try simp only [decide_eq_true_eq, decide_eq_false_iff_not, Bool.not_eq_true', Bool.not_eq_false', bne_iff_ne, beq_iff_eq, bne_eq_false_iff_eq, beq_eq_false_iff_ne, ne_eq, Int.not_le, Int.not_lt, ge_iff_le, gt_iff_lt] at hc1
    
    refine st_v hS (hS.wanted rfl rfl rfl) rfl (run_move hS rfl) fun a hS => st_v hS (hS.wanted rfl rfl rfl) rfl (run_len_slice Try.underlying82 hS rfl) fun a hS => st_v hS (hS.wanted rfl rfl rfl) rfl (run_bin hS rfl rfl rfl) fun a hS => st_v hS rfl rfl (run_pick_f hS rfl rfl) fun a hS => wl_nil ?_
    refine st_cond hS rfl (fun hc2 => ?_) (fun hc2 => ?_)
    · skip
      try simp only [decide_eq_true_eq, decide_eq_false_iff_not, Bool.not_eq_true', Bool.not_eq_false', bne_iff_ne, beq_iff_eq, bne_eq_false_iff_eq, beq_eq_false_iff_ne, ne_eq, Int.not_le, Int.not_lt, ge_iff_le, gt_iff_lt] at hc2
      refine wpIn_seq ?_
      refine wpIn_region_lit ?_
      refine st_call (law02_works) Try.call16 hS rfl rfl rfl fun v W a hR hB hlt hS => ?_
      subst hR
      refine st_v hS rfl rfl (run_assign hS rfl) fun a hS => wl_nil ?_
      refine wpIn_ret ?_
      repeat (first | refine q_ret ?_ | refine q_block_ret ?_)
      refine hS.done (res1 (fn := Try.f11) (r1 := .tmp 6) rfl (rv_tmp hS rfl)) ?_
      rfl
    · skip
      try simp only [decide_eq_true_eq, decide_eq_false_iff_not, Bool.not_eq_true', Bool.not_eq_false', bne_iff_ne, beq_iff_eq, bne_eq_false_iff_eq, beq_eq_false_iff_ne, ne_eq, Int.not_le, Int.not_lt, ge_iff_le, gt_iff_lt] at hc2
      
      refine wpIn_skip ?_
      refine wpIn_seq ?_
      have hS := hS.sub (κ' := [(0, _), (1, _), (2, _), (3, _), (4, _), (6, _)]) (Sub.cons rfl (Sub.cons rfl (Sub.cons rfl (Sub.cons rfl (Sub.cons rfl (Sub.cons rfl Sub.nil))))))
      refine st_cutN (fun b => [(8, .int .i64 (descP r A dr)), (9, .int .i64 (descE r A dr)), (7, .pointer (some ⟨b, 0, none⟩))]) (fun b => [⟨b, spanC (descV r A dr), 34⟩]) hS ?_ ?_
      · skip
        refine anyh_start (by kernel_rfl) [true, true] hS fun W hS => ?_
        refine anyh_take (i := 0) [true, true] hS (fun _ h => h) rfl rfl (by kernel_rfl) (by kernel_rfl) (by kernel_rfl) rfl rfl (fun W' hS => run_load_all (i := 1) Try.isAgg27 Try.sizeOf27 hS rfl rfl rfl) fun a hS => ?_
        refine anyh_take (i := 2) [true, true] hS (fun _ h => h) rfl rfl (by kernel_rfl) (by kernel_rfl) (by kernel_rfl) rfl rfl (fun W' hS => run_load_all (i := 0) Try.isAgg36 Try.sizeOf36 hS rfl rfl rfl) fun a hS => ?_
        refine anyh_take (i := 4) [true, true] hS (fun _ h => h) rfl rfl (by kernel_rfl) (by kernel_rfl) (by kernel_rfl) rfl rfl (fun W' hS => run_move hS rfl) fun a hS => ?_
        refine anyh_go (rs := [1, 3, 11]) (by kernel_rfl) (by simp) ⟨⟨_, rfl, ?_⟩, ⟨_, rfl, ?_⟩, ⟨_, rfl, ?_⟩, trivial⟩
        · skip
          have hw0 := hS.below.size
          refine st_call (law02_own Vr r (Hr _ hS.below) (by exact farR_not hc1)) Try.call18 hS rfl rfl rfl fun v W a hR hB hlt hS => ?_
          
          obtain ⟨V0, rfl, hV0⟩ := hR
          have hS := hS.moreRot hw0 hlt hV0
          refine wl_nil ?_
          refine anyh_next [true, true] hS (fun _ h => h.1) rfl ?_
          refine anyh_go (rs := [3, 11]) (by kernel_rfl) (by simp) ⟨⟨_, rfl, ?_⟩, ⟨_, rfl, ?_⟩, trivial⟩
          · skip
            refine st_buildSlice (pv := []) (fun W => bs82_0_ W) hS rfl rfl rfl fun W a b2 hS => wl_nil ?_
            refine anyh_next [false, true, true] hS (fun _ h => h.1) rfl ?_
            refine anyh_go (rs := [5, 11]) (by kernel_rfl) (by simp) ⟨⟨_, rfl, ?_⟩, ⟨_, rfl, ?_⟩, trivial⟩
            · skip
              refine st_app0 rfl (by decide) Try.underlying82 (AI.of ai88) Try.underlying82 drop_one (Hdr _ hS.below) (by omega) hS (i := 0) rfl rfl rfl rfl rfl fun v W a hR hB hlt hS => ?_
              
              obtain ⟨s1, rfl, hs1⟩ := hR
              have hS := hS.moreSl hlt hs1
              refine wl_nil ?_
              refine anyh_next [false, true, true] hS (fun _ h => h.1.1) rfl ?_
              refine anyh_go (rs := [6, 11]) (by kernel_rfl) (by simp) ⟨⟨_, rfl, ?_⟩, ⟨_, rfl, ?_⟩, trivial⟩
              · skip
                refine st_call (rotor_Descent V0 r A s1 dr ((fun _ h => h) _ hS.now.1.2) ((fun _ h => h) _ hS.now.2)) Try.call45 hS rfl rfl rfl fun v W a hR hB hlt hS => ?_
                subst hR
                refine wl_nil ?_
                refine anyh_next [false, true, true] hS (fun _ h => h.1.1) rfl ?_
                refine anyh_take (i := 7) [false, true, true] hS (fun _ h => h.1.1) rfl rfl (by kernel_rfl) (by kernel_rfl) (by kernel_rfl) rfl rfl (fun W' hS => run_move hS rfl) fun a hS => ?_
                refine anyh_take (i := 8) [false, true, true] hS (fun _ h => h.1.1) rfl rfl (by kernel_rfl) (by kernel_rfl) (by kernel_rfl) rfl rfl (fun W' hS => run_extract hS rfl rfl) fun a hS => ?_
                refine anyh_take (i := 9) [false, true, true] hS (fun _ h => h.1.1) rfl rfl (by kernel_rfl) (by kernel_rfl) (by kernel_rfl) rfl rfl (fun W' hS => run_extract hS rfl rfl) fun a hS => ?_
                refine anyh_take (i := 10) [false, true, true] hS (fun _ h => h.1.1) rfl rfl (by kernel_rfl) (by kernel_rfl) (by kernel_rfl) rfl rfl (fun W' hS => run_extract hS rfl rfl) fun a hS => ?_
                refine anyh_go (rs := [11]) (by kernel_rfl) (by simp) ⟨⟨_, rfl, ?_⟩, trivial⟩
                refine st_alloc_agg Try.zeroValue34 hS rfl rfl fun W a b3 hS => wl_nil ?_
                refine anyh_next [false, false, true, true] hS (fun _ h => h.1.1) rfl ?_
                refine anyh_go (rs := [12]) (by kernel_rfl) (by simp) ⟨⟨_, rfl, ?_⟩, trivial⟩
                refine st_store (i := 0) Try.sizeOf34 hS rfl rfl rfl rfl rfl rfl rfl rfl rfl fun W a hS => wl_nil ?_
                refine anyh_next [false, false, true, true] hS (fun _ h => h.1.1) rfl ?_
                refine anyh_take (i := 13) [false, false, true, true] hS (fun _ h => h.1.1) rfl rfl (by kernel_rfl) (by kernel_rfl) (by kernel_rfl) rfl rfl (fun W' hS => run_assign hS rfl) fun a hS => ?_
                refine anyh_take (i := 14) [false, false, true, true] hS (fun _ h => h.1.1) rfl rfl (by kernel_rfl) (by kernel_rfl) (by kernel_rfl) rfl rfl (fun W' hS => run_assign hS rfl) fun a hS => ?_
                refine anyh_done (by kernel_rfl) ?_ _
                refine cut_end ⟨b3, ?_⟩
                dsimp only [List.cons_append, List.nil_append]
                exact ((hS.sub (Sub.cons rfl (Sub.cons rfl (Sub.cons rfl (Sub.cons rfl (Sub.cons rfl (Sub.cons rfl (Sub.cons rfl (Sub.cons rfl (Sub.cons rfl Sub.nil)))))))))).drop (List.Sublist.cons_cons _ (List.Sublist.cons _ (List.Sublist.refl _)))).less (fun _ h => h.1.1)
              · skip
                refine st_alloc_agg Try.zeroValue34 hS rfl rfl fun W a b4 hS => wl_nil ?_
                refine anyh_next [false, false, true, true] hS (fun _ h => h.1.1) rfl ?_
                refine anyh_go (rs := [6]) (by kernel_rfl) (by simp) ⟨⟨_, rfl, ?_⟩, trivial⟩
                refine st_call (rotor_Descent V0 r A s1 dr ((fun _ h => h) _ hS.now.1.2) ((fun _ h => h) _ hS.now.2)) Try.call45 hS rfl rfl rfl fun v W a hR hB hlt hS => ?_
                subst hR
                refine wl_nil ?_
                refine anyh_next [false, false, true, true] hS (fun _ h => h.1.1) rfl ?_
                refine anyh_take (i := 7) [false, false, true, true] hS (fun _ h => h.1.1) rfl rfl (by kernel_rfl) (by kernel_rfl) (by kernel_rfl) rfl rfl (fun W' hS => run_move hS rfl) fun a hS => ?_
                refine anyh_take (i := 8) [false, false, true, true] hS (fun _ h => h.1.1) rfl rfl (by kernel_rfl) (by kernel_rfl) (by kernel_rfl) rfl rfl (fun W' hS => run_extract hS rfl rfl) fun a hS => ?_
                refine anyh_take (i := 9) [false, false, true, true] hS (fun _ h => h.1.1) rfl rfl (by kernel_rfl) (by kernel_rfl) (by kernel_rfl) rfl rfl (fun W' hS => run_extract hS rfl rfl) fun a hS => ?_
                refine anyh_take (i := 10) [false, false, true, true] hS (fun _ h => h.1.1) rfl rfl (by kernel_rfl) (by kernel_rfl) (by kernel_rfl) rfl rfl (fun W' hS => run_extract hS rfl rfl) fun a hS => ?_
                refine anyh_go (rs := [12]) (by kernel_rfl) (by simp) ⟨⟨_, rfl, ?_⟩, trivial⟩
                refine st_store (i := 0) Try.sizeOf34 hS rfl rfl rfl rfl rfl rfl rfl rfl rfl fun W a hS => wl_nil ?_
                refine anyh_next [false, false, true, true] hS (fun _ h => h.1.1) rfl ?_
                refine anyh_take (i := 13) [false, false, true, true] hS (fun _ h => h.1.1) rfl rfl (by kernel_rfl) (by kernel_rfl) (by kernel_rfl) rfl rfl (fun W' hS => run_assign hS rfl) fun a hS => ?_
                refine anyh_take (i := 14) [false, false, true, true] hS (fun _ h => h.1.1) rfl rfl (by kernel_rfl) (by kernel_rfl) (by kernel_rfl) rfl rfl (fun W' hS => run_assign hS rfl) fun a hS => ?_
                refine anyh_done (by kernel_rfl) ?_ _
                refine cut_end ⟨b4, ?_⟩
                dsimp only [List.cons_append, List.nil_append]
                exact ((hS.sub (Sub.cons rfl (Sub.cons rfl (Sub.cons rfl (Sub.cons rfl (Sub.cons rfl (Sub.cons rfl (Sub.cons rfl (Sub.cons rfl (Sub.cons rfl Sub.nil)))))))))).drop (List.Sublist.cons_cons _ (List.Sublist.cons _ (List.Sublist.refl _)))).less (fun _ h => h.1.1)
            · skip
              refine st_alloc_agg Try.zeroValue34 hS rfl rfl fun W a b5 hS => wl_nil ?_
              refine anyh_next [false, false, true, true] hS (fun _ h => h.1) rfl ?_
              refine anyh_go (rs := [5]) (by kernel_rfl) (by simp) ⟨⟨_, rfl, ?_⟩, trivial⟩
              refine st_app0 rfl (by decide) Try.underlying82 (AI.of ai88) Try.underlying82 drop_one (Hdr _ hS.below) (by omega) hS (i := 1) rfl rfl rfl rfl rfl fun v W a hR hB hlt hS => ?_
              
              obtain ⟨s2, rfl, hs2⟩ := hR
              have hS := hS.moreSl hlt hs2
              refine wl_nil ?_
              refine anyh_next [false, false, true, true] hS (fun _ h => h.1.1) rfl ?_
              refine anyh_go (rs := [6]) (by kernel_rfl) (by simp) ⟨⟨_, rfl, ?_⟩, trivial⟩
              refine st_call (rotor_Descent V0 r A s2 dr ((fun _ h => h) _ hS.now.1.2) ((fun _ h => h) _ hS.now.2)) Try.call45 hS rfl rfl rfl fun v W a hR hB hlt hS => ?_
              subst hR
              refine wl_nil ?_
              refine anyh_next [false, false, true, true] hS (fun _ h => h.1.1) rfl ?_
              refine anyh_take (i := 7) [false, false, true, true] hS (fun _ h => h.1.1) rfl rfl (by kernel_rfl) (by kernel_rfl) (by kernel_rfl) rfl rfl (fun W' hS => run_move hS rfl) fun a hS => ?_
              refine anyh_take (i := 8) [false, false, true, true] hS (fun _ h => h.1.1) rfl rfl (by kernel_rfl) (by kernel_rfl) (by kernel_rfl) rfl rfl (fun W' hS => run_extract hS rfl rfl) fun a hS => ?_
              refine anyh_take (i := 9) [false, false, true, true] hS (fun _ h => h.1.1) rfl rfl (by kernel_rfl) (by kernel_rfl) (by kernel_rfl) rfl rfl (fun W' hS => run_extract hS rfl rfl) fun a hS => ?_
              refine anyh_take (i := 10) [false, false, true, true] hS (fun _ h => h.1.1) rfl rfl (by kernel_rfl) (by kernel_rfl) (by kernel_rfl) rfl rfl (fun W' hS => run_extract hS rfl rfl) fun a hS => ?_
              refine anyh_go (rs := [12]) (by kernel_rfl) (by simp) ⟨⟨_, rfl, ?_⟩, trivial⟩
              refine st_store (i := 0) Try.sizeOf34 hS rfl rfl rfl rfl rfl rfl rfl rfl rfl fun W a hS => wl_nil ?_
              refine anyh_next [false, false, true, true] hS (fun _ h => h.1.1) rfl ?_
              refine anyh_take (i := 13) [false, false, true, true] hS (fun _ h => h.1.1) rfl rfl (by kernel_rfl) (by kernel_rfl) (by kernel_rfl) rfl rfl (fun W' hS => run_assign hS rfl) fun a hS => ?_
              refine anyh_take (i := 14) [false, false, true, true] hS (fun _ h => h.1.1) rfl rfl (by kernel_rfl) (by kernel_rfl) (by kernel_rfl) rfl rfl (fun W' hS => run_assign hS rfl) fun a hS => ?_
              refine anyh_done (by kernel_rfl) ?_ _
              refine cut_end ⟨b5, ?_⟩
              dsimp only [List.cons_append, List.nil_append]
              exact ((hS.sub (Sub.cons rfl (Sub.cons rfl (Sub.cons rfl (Sub.cons rfl (Sub.cons rfl (Sub.cons rfl (Sub.cons rfl (Sub.cons rfl (Sub.cons rfl Sub.nil)))))))))).drop (List.Sublist.cons_cons _ (List.Sublist.cons _ (List.Sublist.refl _)))).less (fun _ h => h.1.1)
          · skip
            refine st_alloc_agg Try.zeroValue34 hS rfl rfl fun W a b6 hS => wl_nil ?_
            refine anyh_next [false, true, true] hS (fun _ h => h.1) rfl ?_
            refine anyh_go (rs := [3]) (by kernel_rfl) (by simp) ⟨⟨_, rfl, ?_⟩, trivial⟩
            refine st_buildSlice (pv := []) (fun W => bs82_0_ W) hS rfl rfl rfl fun W a b7 hS => wl_nil ?_
            refine anyh_next [false, false, true, true] hS (fun _ h => h.1) rfl ?_
            refine anyh_go (rs := [5]) (by kernel_rfl) (by simp) ⟨⟨_, rfl, ?_⟩, trivial⟩
            refine st_app0 rfl (by decide) Try.underlying82 (AI.of ai88) Try.underlying82 drop_one (Hdr _ hS.below) (by omega) hS (i := 0) rfl rfl rfl rfl rfl fun v W a hR hB hlt hS => ?_
            
            obtain ⟨s3, rfl, hs3⟩ := hR
            have hS := hS.moreSl hlt hs3
            refine wl_nil ?_
            refine anyh_next [false, false, true, true] hS (fun _ h => h.1.1) rfl ?_
            refine anyh_go (rs := [6]) (by kernel_rfl) (by simp) ⟨⟨_, rfl, ?_⟩, trivial⟩
            refine st_call (rotor_Descent V0 r A s3 dr ((fun _ h => h) _ hS.now.1.2) ((fun _ h => h) _ hS.now.2)) Try.call45 hS rfl rfl rfl fun v W a hR hB hlt hS => ?_
            subst hR
            refine wl_nil ?_
            refine anyh_next [false, false, true, true] hS (fun _ h => h.1.1) rfl ?_
            refine anyh_take (i := 7) [false, false, true, true] hS (fun _ h => h.1.1) rfl rfl (by kernel_rfl) (by kernel_rfl) (by kernel_rfl) rfl rfl (fun W' hS => run_move hS rfl) fun a hS => ?_
            refine anyh_take (i := 8) [false, false, true, true] hS (fun _ h => h.1.1) rfl rfl (by kernel_rfl) (by kernel_rfl) (by kernel_rfl) rfl rfl (fun W' hS => run_extract hS rfl rfl) fun a hS => ?_
            refine anyh_take (i := 9) [false, false, true, true] hS (fun _ h => h.1.1) rfl rfl (by kernel_rfl) (by kernel_rfl) (by kernel_rfl) rfl rfl (fun W' hS => run_extract hS rfl rfl) fun a hS => ?_
            refine anyh_take (i := 10) [false, false, true, true] hS (fun _ h => h.1.1) rfl rfl (by kernel_rfl) (by kernel_rfl) (by kernel_rfl) rfl rfl (fun W' hS => run_extract hS rfl rfl) fun a hS => ?_
            refine anyh_go (rs := [12]) (by kernel_rfl) (by simp) ⟨⟨_, rfl, ?_⟩, trivial⟩
            refine st_store (i := 1) Try.sizeOf34 hS rfl rfl rfl rfl rfl rfl rfl rfl rfl fun W a hS => wl_nil ?_
            refine anyh_next [false, false, true, true] hS (fun _ h => h.1.1) rfl ?_
            refine anyh_take (i := 13) [false, false, true, true] hS (fun _ h => h.1.1) rfl rfl (by kernel_rfl) (by kernel_rfl) (by kernel_rfl) rfl rfl (fun W' hS => run_assign hS rfl) fun a hS => ?_
            refine anyh_take (i := 14) [false, false, true, true] hS (fun _ h => h.1.1) rfl rfl (by kernel_rfl) (by kernel_rfl) (by kernel_rfl) rfl rfl (fun W' hS => run_assign hS rfl) fun a hS => ?_
            refine anyh_done (by kernel_rfl) ?_ _
            refine cut_end ⟨b6, ?_⟩
            dsimp only [List.cons_append, List.nil_append]
            exact ((hS.sub (Sub.cons rfl (Sub.cons rfl (Sub.cons rfl (Sub.cons rfl (Sub.cons rfl (Sub.cons rfl (Sub.cons rfl (Sub.cons rfl (Sub.cons rfl Sub.nil)))))))))).drop (List.Sublist.cons _ (List.Sublist.cons_cons _ (List.Sublist.refl _)))).less (fun _ h => h.1.1)
        · skip
          refine st_buildSlice (pv := []) (fun W => bs82_0_ W) hS rfl rfl rfl fun W a b8 hS => wl_nil ?_
          refine anyh_next [false, true, true] hS (fun _ h => h) rfl ?_
          refine anyh_go (rs := [1, 11]) (by kernel_rfl) (by simp) ⟨⟨_, rfl, ?_⟩, ⟨_, rfl, ?_⟩, trivial⟩
          · skip
            have hw4 := hS.below.size
            refine st_call (law02_own Vr r (Hr _ hS.below) (by exact farR_not hc1)) Try.call18 hS rfl rfl rfl fun v W a hR hB hlt hS => ?_
            
            obtain ⟨V4, rfl, hV4⟩ := hR
            have hS := hS.moreRot hw4 hlt hV4
            refine wl_nil ?_
            refine anyh_next [false, true, true] hS (fun _ h => h.1) rfl ?_
            refine anyh_go (rs := [5, 11]) (by kernel_rfl) (by simp) ⟨⟨_, rfl, ?_⟩, ⟨_, rfl, ?_⟩, trivial⟩
            · skip
              refine st_app0 rfl (by decide) Try.underlying82 (AI.of ai88) Try.underlying82 drop_one (Hdr _ hS.below) (by omega) hS (i := 0) rfl rfl rfl rfl rfl fun v W a hR hB hlt hS => ?_
              
              obtain ⟨s5, rfl, hs5⟩ := hR
              have hS := hS.moreSl hlt hs5
              refine wl_nil ?_
              refine anyh_next [false, true, true] hS (fun _ h => h.1.1) rfl ?_
              refine anyh_go (rs := [6, 11]) (by kernel_rfl) (by simp) ⟨⟨_, rfl, ?_⟩, ⟨_, rfl, ?_⟩, trivial⟩
              · skip
                refine st_call (rotor_Descent V4 r A s5 dr ((fun _ h => h) _ hS.now.1.2) ((fun _ h => h) _ hS.now.2)) Try.call45 hS rfl rfl rfl fun v W a hR hB hlt hS => ?_
                subst hR
                refine wl_nil ?_
                refine anyh_next [false, true, true] hS (fun _ h => h.1.1) rfl ?_
                refine anyh_take (i := 7) [false, true, true] hS (fun _ h => h.1.1) rfl rfl (by kernel_rfl) (by kernel_rfl) (by kernel_rfl) rfl rfl (fun W' hS => run_move hS rfl) fun a hS => ?_
                refine anyh_take (i := 8) [false, true, true] hS (fun _ h => h.1.1) rfl rfl (by kernel_rfl) (by kernel_rfl) (by kernel_rfl) rfl rfl (fun W' hS => run_extract hS rfl rfl) fun a hS => ?_
                refine anyh_take (i := 9) [false, true, true] hS (fun _ h => h.1.1) rfl rfl (by kernel_rfl) (by kernel_rfl) (by kernel_rfl) rfl rfl (fun W' hS => run_extract hS rfl rfl) fun a hS => ?_
                refine anyh_take (i := 10) [false, true, true] hS (fun _ h => h.1.1) rfl rfl (by kernel_rfl) (by kernel_rfl) (by kernel_rfl) rfl rfl (fun W' hS => run_extract hS rfl rfl) fun a hS => ?_
                refine anyh_go (rs := [11]) (by kernel_rfl) (by simp) ⟨⟨_, rfl, ?_⟩, trivial⟩
                refine st_alloc_agg Try.zeroValue34 hS rfl rfl fun W a b9 hS => wl_nil ?_
                refine anyh_next [false, false, true, true] hS (fun _ h => h.1.1) rfl ?_
                refine anyh_go (rs := [12]) (by kernel_rfl) (by simp) ⟨⟨_, rfl, ?_⟩, trivial⟩
                refine st_store (i := 0) Try.sizeOf34 hS rfl rfl rfl rfl rfl rfl rfl rfl rfl fun W a hS => wl_nil ?_
                refine anyh_next [false, false, true, true] hS (fun _ h => h.1.1) rfl ?_
                refine anyh_take (i := 13) [false, false, true, true] hS (fun _ h => h.1.1) rfl rfl (by kernel_rfl) (by kernel_rfl) (by kernel_rfl) rfl rfl (fun W' hS => run_assign hS rfl) fun a hS => ?_
                refine anyh_take (i := 14) [false, false, true, true] hS (fun _ h => h.1.1) rfl rfl (by kernel_rfl) (by kernel_rfl) (by kernel_rfl) rfl rfl (fun W' hS => run_assign hS rfl) fun a hS => ?_
                refine anyh_done (by kernel_rfl) ?_ _
                refine cut_end ⟨b9, ?_⟩
                dsimp only [List.cons_append, List.nil_append]
                exact ((hS.sub (Sub.cons rfl (Sub.cons rfl (Sub.cons rfl (Sub.cons rfl (Sub.cons rfl (Sub.cons rfl (Sub.cons rfl (Sub.cons rfl (Sub.cons rfl Sub.nil)))))))))).drop (List.Sublist.cons_cons _ (List.Sublist.cons _ (List.Sublist.refl _)))).less (fun _ h => h.1.1)
              · skip
                refine st_alloc_agg Try.zeroValue34 hS rfl rfl fun W a b10 hS => wl_nil ?_
                refine anyh_next [false, false, true, true] hS (fun _ h => h.1.1) rfl ?_
                refine anyh_go (rs := [6]) (by kernel_rfl) (by simp) ⟨⟨_, rfl, ?_⟩, trivial⟩
                refine st_call (rotor_Descent V4 r A s5 dr ((fun _ h => h) _ hS.now.1.2) ((fun _ h => h) _ hS.now.2)) Try.call45 hS rfl rfl rfl fun v W a hR hB hlt hS => ?_
                subst hR
                refine wl_nil ?_
                refine anyh_next [false, false, true, true] hS (fun _ h => h.1.1) rfl ?_
                refine anyh_take (i := 7) [false, false, true, true] hS (fun _ h => h.1.1) rfl rfl (by kernel_rfl) (by kernel_rfl) (by kernel_rfl) rfl rfl (fun W' hS => run_move hS rfl) fun a hS => ?_
                refine anyh_take (i := 8) [false, false, true, true] hS (fun _ h => h.1.1) rfl rfl (by kernel_rfl) (by kernel_rfl) (by kernel_rfl) rfl rfl (fun W' hS => run_extract hS rfl rfl) fun a hS => ?_
                refine anyh_take (i := 9) [false, false, true, true] hS (fun _ h => h.1.1) rfl rfl (by kernel_rfl) (by kernel_rfl) (by kernel_rfl) rfl rfl (fun W' hS => run_extract hS rfl rfl) fun a hS => ?_
                refine anyh_take (i := 10) [false, false, true, true] hS (fun _ h => h.1.1) rfl rfl (by kernel_rfl) (by kernel_rfl) (by kernel_rfl) rfl rfl (fun W' hS => run_extract hS rfl rfl) fun a hS => ?_
                refine anyh_go (rs := [12]) (by kernel_rfl) (by simp) ⟨⟨_, rfl, ?_⟩, trivial⟩
                refine st_store (i := 0) Try.sizeOf34 hS rfl rfl rfl rfl rfl rfl rfl rfl rfl fun W a hS => wl_nil ?_
                refine anyh_next [false, false, true, true] hS (fun _ h => h.1.1) rfl ?_
                refine anyh_take (i := 13) [false, false, true, true] hS (fun _ h => h.1.1) rfl rfl (by kernel_rfl) (by kernel_rfl) (by kernel_rfl) rfl rfl (fun W' hS => run_assign hS rfl) fun a hS => ?_
                refine anyh_take (i := 14) [false, false, true, true] hS (fun _ h => h.1.1) rfl rfl (by kernel_rfl) (by kernel_rfl) (by kernel_rfl) rfl rfl (fun W' hS => run_assign hS rfl) fun a hS => ?_
                refine anyh_done (by kernel_rfl) ?_ _
                refine cut_end ⟨b10, ?_⟩
                dsimp only [List.cons_append, List.nil_append]
                exact ((hS.sub (Sub.cons rfl (Sub.cons rfl (Sub.cons rfl (Sub.cons rfl (Sub.cons rfl (Sub.cons rfl (Sub.cons rfl (Sub.cons rfl (Sub.cons rfl Sub.nil)))))))))).drop (List.Sublist.cons_cons _ (List.Sublist.cons _ (List.Sublist.refl _)))).less (fun _ h => h.1.1)
            · skip
              refine st_alloc_agg Try.zeroValue34 hS rfl rfl fun W a b11 hS => wl_nil ?_
              refine anyh_next [false, false, true, true] hS (fun _ h => h.1) rfl ?_
              refine anyh_go (rs := [5]) (by kernel_rfl) (by simp) ⟨⟨_, rfl, ?_⟩, trivial⟩
              refine st_app0 rfl (by decide) Try.underlying82 (AI.of ai88) Try.underlying82 drop_one (Hdr _ hS.below) (by omega) hS (i := 1) rfl rfl rfl rfl rfl fun v W a hR hB hlt hS => ?_
              
              obtain ⟨s6, rfl, hs6⟩ := hR
              have hS := hS.moreSl hlt hs6
              refine wl_nil ?_
              refine anyh_next [false, false, true, true] hS (fun _ h => h.1.1) rfl ?_
              refine anyh_go (rs := [6]) (by kernel_rfl) (by simp) ⟨⟨_, rfl, ?_⟩, trivial⟩
              refine st_call (rotor_Descent V4 r A s6 dr ((fun _ h => h) _ hS.now.1.2) ((fun _ h => h) _ hS.now.2)) Try.call45 hS rfl rfl rfl fun v W a hR hB hlt hS => ?_
              subst hR
              refine wl_nil ?_
              refine anyh_next [false, false, true, true] hS (fun _ h => h.1.1) rfl ?_
              refine anyh_take (i := 7) [false, false, true, true] hS (fun _ h => h.1.1) rfl rfl (by kernel_rfl) (by kernel_rfl) (by kernel_rfl) rfl rfl (fun W' hS => run_move hS rfl) fun a hS => ?_
              refine anyh_take (i := 8) [false, false, true, true] hS (fun _ h => h.1.1) rfl rfl (by kernel_rfl) (by kernel_rfl) (by kernel_rfl) rfl rfl (fun W' hS => run_extract hS rfl rfl) fun a hS => ?_
              refine anyh_take (i := 9) [false, false, true, true] hS (fun _ h => h.1.1) rfl rfl (by kernel_rfl) (by kernel_rfl) (by kernel_rfl) rfl rfl (fun W' hS => run_extract hS rfl rfl) fun a hS => ?_
              refine anyh_take (i := 10) [false, false, true, true] hS (fun _ h => h.1.1) rfl rfl (by kernel_rfl) (by kernel_rfl) (by kernel_rfl) rfl rfl (fun W' hS => run_extract hS rfl rfl) fun a hS => ?_
              refine anyh_go (rs := [12]) (by kernel_rfl) (by simp) ⟨⟨_, rfl, ?_⟩, trivial⟩
              refine st_store (i := 0) Try.sizeOf34 hS rfl rfl rfl rfl rfl rfl rfl rfl rfl fun W a hS => wl_nil ?_
              refine anyh_next [false, false, true, true] hS (fun _ h => h.1.1) rfl ?_
              refine anyh_take (i := 13) [false, false, true, true] hS (fun _ h => h.1.1) rfl rfl (by kernel_rfl) (by kernel_rfl) (by kernel_rfl) rfl rfl (fun W' hS => run_assign hS rfl) fun a hS => ?_
              refine anyh_take (i := 14) [false, false, true, true] hS (fun _ h => h.1.1) rfl rfl (by kernel_rfl) (by kernel_rfl) (by kernel_rfl) rfl rfl (fun W' hS => run_assign hS rfl) fun a hS => ?_
              refine anyh_done (by kernel_rfl) ?_ _
              refine cut_end ⟨b11, ?_⟩
              dsimp only [List.cons_append, List.nil_append]
              exact ((hS.sub (Sub.cons rfl (Sub.cons rfl (Sub.cons rfl (Sub.cons rfl (Sub.cons rfl (Sub.cons rfl (Sub.cons rfl (Sub.cons rfl (Sub.cons rfl Sub.nil)))))))))).drop (List.Sublist.cons_cons _ (List.Sublist.cons _ (List.Sublist.refl _)))).less (fun _ h => h.1.1)
          · skip
            refine st_alloc_agg Try.zeroValue34 hS rfl rfl fun W a b12 hS => wl_nil ?_
            refine anyh_next [false, false, true, true] hS (fun _ h => h) rfl ?_
            refine anyh_go (rs := [1]) (by kernel_rfl) (by simp) ⟨⟨_, rfl, ?_⟩, trivial⟩
            have hw7 := hS.below.size
            refine st_call (law02_own Vr r (Hr _ hS.below) (by exact farR_not hc1)) Try.call18 hS rfl rfl rfl fun v W a hR hB hlt hS => ?_
            
            obtain ⟨V7, rfl, hV7⟩ := hR
            have hS := hS.moreRot hw7 hlt hV7
            refine wl_nil ?_
            refine anyh_next [false, false, true, true] hS (fun _ h => h.1) rfl ?_
            refine anyh_go (rs := [5]) (by kernel_rfl) (by simp) ⟨⟨_, rfl, ?_⟩, trivial⟩
            refine st_app0 rfl (by decide) Try.underlying82 (AI.of ai88) Try.underlying82 drop_one (Hdr _ hS.below) (by omega) hS (i := 1) rfl rfl rfl rfl rfl fun v W a hR hB hlt hS => ?_
            
            obtain ⟨s8, rfl, hs8⟩ := hR
            have hS := hS.moreSl hlt hs8
            refine wl_nil ?_
            refine anyh_next [false, false, true, true] hS (fun _ h => h.1.1) rfl ?_
            refine anyh_go (rs := [6]) (by kernel_rfl) (by simp) ⟨⟨_, rfl, ?_⟩, trivial⟩
            refine st_call (rotor_Descent V7 r A s8 dr ((fun _ h => h) _ hS.now.1.2) ((fun _ h => h) _ hS.now.2)) Try.call45 hS rfl rfl rfl fun v W a hR hB hlt hS => ?_
            subst hR
            refine wl_nil ?_
            refine anyh_next [false, false, true, true] hS (fun _ h => h.1.1) rfl ?_
            refine anyh_take (i := 7) [false, false, true, true] hS (fun _ h => h.1.1) rfl rfl (by kernel_rfl) (by kernel_rfl) (by kernel_rfl) rfl rfl (fun W' hS => run_move hS rfl) fun a hS => ?_
            refine anyh_take (i := 8) [false, false, true, true] hS (fun _ h => h.1.1) rfl rfl (by kernel_rfl) (by kernel_rfl) (by kernel_rfl) rfl rfl (fun W' hS => run_extract hS rfl rfl) fun a hS => ?_
            refine anyh_take (i := 9) [false, false, true, true] hS (fun _ h => h.1.1) rfl rfl (by kernel_rfl) (by kernel_rfl) (by kernel_rfl) rfl rfl (fun W' hS => run_extract hS rfl rfl) fun a hS => ?_
            refine anyh_take (i := 10) [false, false, true, true] hS (fun _ h => h.1.1) rfl rfl (by kernel_rfl) (by kernel_rfl) (by kernel_rfl) rfl rfl (fun W' hS => run_extract hS rfl rfl) fun a hS => ?_
            refine anyh_go (rs := [12]) (by kernel_rfl) (by simp) ⟨⟨_, rfl, ?_⟩, trivial⟩
            refine st_store (i := 0) Try.sizeOf34 hS rfl rfl rfl rfl rfl rfl rfl rfl rfl fun W a hS => wl_nil ?_
            refine anyh_next [false, false, true, true] hS (fun _ h => h.1.1) rfl ?_
            refine anyh_take (i := 13) [false, false, true, true] hS (fun _ h => h.1.1) rfl rfl (by kernel_rfl) (by kernel_rfl) (by kernel_rfl) rfl rfl (fun W' hS => run_assign hS rfl) fun a hS => ?_
            refine anyh_take (i := 14) [false, false, true, true] hS (fun _ h => h.1.1) rfl rfl (by kernel_rfl) (by kernel_rfl) (by kernel_rfl) rfl rfl (fun W' hS => run_assign hS rfl) fun a hS => ?_
            refine anyh_done (by kernel_rfl) ?_ _
            refine cut_end ⟨b12, ?_⟩
            dsimp only [List.cons_append, List.nil_append]
            exact ((hS.sub (Sub.cons rfl (Sub.cons rfl (Sub.cons rfl (Sub.cons rfl (Sub.cons rfl (Sub.cons rfl (Sub.cons rfl (Sub.cons rfl (Sub.cons rfl Sub.nil)))))))))).drop (List.Sublist.cons_cons _ (List.Sublist.cons _ (List.Sublist.refl _)))).less (fun _ h => h.1.1)
        · skip
          refine st_alloc_agg Try.zeroValue34 hS rfl rfl fun W a b13 hS => wl_nil ?_
          refine anyh_next [false, true, true] hS (fun _ h => h) rfl ?_
          refine anyh_go (rs := [1, 3]) (by kernel_rfl) (by simp) ⟨⟨_, rfl, ?_⟩, ⟨_, rfl, ?_⟩, trivial⟩
          · skip
            have hw9 := hS.below.size
            refine st_call (law02_own Vr r (Hr _ hS.below) (by exact farR_not hc1)) Try.call18 hS rfl rfl rfl fun v W a hR hB hlt hS => ?_
            
            obtain ⟨V9, rfl, hV9⟩ := hR
            have hS := hS.moreRot hw9 hlt hV9
            refine wl_nil ?_
            refine anyh_next [false, true, true] hS (fun _ h => h.1) rfl ?_
            refine anyh_go (rs := [3]) (by kernel_rfl) (by simp) ⟨⟨_, rfl, ?_⟩, trivial⟩
            refine st_buildSlice (pv := []) (fun W => bs82_0_ W) hS rfl rfl rfl fun W a b14 hS => wl_nil ?_
            refine anyh_next [false, false, true, true] hS (fun _ h => h.1) rfl ?_
            refine anyh_go (rs := [5]) (by kernel_rfl) (by simp) ⟨⟨_, rfl, ?_⟩, trivial⟩
            refine st_app0 rfl (by decide) Try.underlying82 (AI.of ai88) Try.underlying82 drop_one (Hdr _ hS.below) (by omega) hS (i := 0) rfl rfl rfl rfl rfl fun v W a hR hB hlt hS => ?_
            
            obtain ⟨s10, rfl, hs10⟩ := hR
            have hS := hS.moreSl hlt hs10
            refine wl_nil ?_
            refine anyh_next [false, false, true, true] hS (fun _ h => h.1.1) rfl ?_
            refine anyh_go (rs := [6]) (by kernel_rfl) (by simp) ⟨⟨_, rfl, ?_⟩, trivial⟩
            refine st_call (rotor_Descent V9 r A s10 dr ((fun _ h => h) _ hS.now.1.2) ((fun _ h => h) _ hS.now.2)) Try.call45 hS rfl rfl rfl fun v W a hR hB hlt hS => ?_
            subst hR
            refine wl_nil ?_
            refine anyh_next [false, false, true, true] hS (fun _ h => h.1.1) rfl ?_
            refine anyh_take (i := 7) [false, false, true, true] hS (fun _ h => h.1.1) rfl rfl (by kernel_rfl) (by kernel_rfl) (by kernel_rfl) rfl rfl (fun W' hS => run_move hS rfl) fun a hS => ?_
            refine anyh_take (i := 8) [false, false, true, true] hS (fun _ h => h.1.1) rfl rfl (by kernel_rfl) (by kernel_rfl) (by kernel_rfl) rfl rfl (fun W' hS => run_extract hS rfl rfl) fun a hS => ?_
            refine anyh_take (i := 9) [false, false, true, true] hS (fun _ h => h.1.1) rfl rfl (by kernel_rfl) (by kernel_rfl) (by kernel_rfl) rfl rfl (fun W' hS => run_extract hS rfl rfl) fun a hS => ?_
            refine anyh_take (i := 10) [false, false, true, true] hS (fun _ h => h.1.1) rfl rfl (by kernel_rfl) (by kernel_rfl) (by kernel_rfl) rfl rfl (fun W' hS => run_extract hS rfl rfl) fun a hS => ?_
            refine anyh_go (rs := [12]) (by kernel_rfl) (by simp) ⟨⟨_, rfl, ?_⟩, trivial⟩
            refine st_store (i := 1) Try.sizeOf34 hS rfl rfl rfl rfl rfl rfl rfl rfl rfl fun W a hS => wl_nil ?_
            refine anyh_next [false, false, true, true] hS (fun _ h => h.1.1) rfl ?_
            refine anyh_take (i := 13) [false, false, true, true] hS (fun _ h => h.1.1) rfl rfl (by kernel_rfl) (by kernel_rfl) (by kernel_rfl) rfl rfl (fun W' hS => run_assign hS rfl) fun a hS => ?_
            refine anyh_take (i := 14) [false, false, true, true] hS (fun _ h => h.1.1) rfl rfl (by kernel_rfl) (by kernel_rfl) (by kernel_rfl) rfl rfl (fun W' hS => run_assign hS rfl) fun a hS => ?_
            refine anyh_done (by kernel_rfl) ?_ _
            refine cut_end ⟨b13, ?_⟩
            dsimp only [List.cons_append, List.nil_append]
            exact ((hS.sub (Sub.cons rfl (Sub.cons rfl (Sub.cons rfl (Sub.cons rfl (Sub.cons rfl (Sub.cons rfl (Sub.cons rfl (Sub.cons rfl (Sub.cons rfl Sub.nil)))))))))).drop (List.Sublist.cons _ (List.Sublist.cons_cons _ (List.Sublist.refl _)))).less (fun _ h => h.1.1)
          · skip
            refine st_buildSlice (pv := []) (fun W => bs82_0_ W) hS rfl rfl rfl fun W a b15 hS => wl_nil ?_
            refine anyh_next [false, false, true, true] hS (fun _ h => h) rfl ?_
            refine anyh_go (rs := [1]) (by kernel_rfl) (by simp) ⟨⟨_, rfl, ?_⟩, trivial⟩
            have hw11 := hS.below.size
            refine st_call (law02_own Vr r (Hr _ hS.below) (by exact farR_not hc1)) Try.call18 hS rfl rfl rfl fun v W a hR hB hlt hS => ?_
            
            obtain ⟨V11, rfl, hV11⟩ := hR
            have hS := hS.moreRot hw11 hlt hV11
            refine wl_nil ?_
            refine anyh_next [false, false, true, true] hS (fun _ h => h.1) rfl ?_
            refine anyh_go (rs := [5]) (by kernel_rfl) (by simp) ⟨⟨_, rfl, ?_⟩, trivial⟩
            refine st_app0 rfl (by decide) Try.underlying82 (AI.of ai88) Try.underlying82 drop_one (Hdr _ hS.below) (by omega) hS (i := 0) rfl rfl rfl rfl rfl fun v W a hR hB hlt hS => ?_
            
            obtain ⟨s12, rfl, hs12⟩ := hR
            have hS := hS.moreSl hlt hs12
            refine wl_nil ?_
            refine anyh_next [false, false, true, true] hS (fun _ h => h.1.1) rfl ?_
            refine anyh_go (rs := [6]) (by kernel_rfl) (by simp) ⟨⟨_, rfl, ?_⟩, trivial⟩
            refine st_call (rotor_Descent V11 r A s12 dr ((fun _ h => h) _ hS.now.1.2) ((fun _ h => h) _ hS.now.2)) Try.call45 hS rfl rfl rfl fun v W a hR hB hlt hS => ?_
            subst hR
            refine wl_nil ?_
            refine anyh_next [false, false, true, true] hS (fun _ h => h.1.1) rfl ?_
            refine anyh_take (i := 7) [false, false, true, true] hS (fun _ h => h.1.1) rfl rfl (by kernel_rfl) (by kernel_rfl) (by kernel_rfl) rfl rfl (fun W' hS => run_move hS rfl) fun a hS => ?_
            refine anyh_take (i := 8) [false, false, true, true] hS (fun _ h => h.1.1) rfl rfl (by kernel_rfl) (by kernel_rfl) (by kernel_rfl) rfl rfl (fun W' hS => run_extract hS rfl rfl) fun a hS => ?_
            refine anyh_take (i := 9) [false, false, true, true] hS (fun _ h => h.1.1) rfl rfl (by kernel_rfl) (by kernel_rfl) (by kernel_rfl) rfl rfl (fun W' hS => run_extract hS rfl rfl) fun a hS => ?_
            refine anyh_take (i := 10) [false, false, true, true] hS (fun _ h => h.1.1) rfl rfl (by kernel_rfl) (by kernel_rfl) (by kernel_rfl) rfl rfl (fun W' hS => run_extract hS rfl rfl) fun a hS => ?_
            refine anyh_go (rs := [12]) (by kernel_rfl) (by simp) ⟨⟨_, rfl, ?_⟩, trivial⟩
            refine st_store (i := 1) Try.sizeOf34 hS rfl rfl rfl rfl rfl rfl rfl rfl rfl fun W a hS => wl_nil ?_
            refine anyh_next [false, false, true, true] hS (fun _ h => h.1.1) rfl ?_
            refine anyh_take (i := 13) [false, false, true, true] hS (fun _ h => h.1.1) rfl rfl (by kernel_rfl) (by kernel_rfl) (by kernel_rfl) rfl rfl (fun W' hS => run_assign hS rfl) fun a hS => ?_
            refine anyh_take (i := 14) [false, false, true, true] hS (fun _ h => h.1.1) rfl rfl (by kernel_rfl) (by kernel_rfl) (by kernel_rfl) rfl rfl (fun W' hS => run_assign hS rfl) fun a hS => ?_
            refine anyh_done (by kernel_rfl) ?_ _
            refine cut_end ⟨b13, ?_⟩
            dsimp only [List.cons_append, List.nil_append]
            exact ((hS.sub (Sub.cons rfl (Sub.cons rfl (Sub.cons rfl (Sub.cons rfl (Sub.cons rfl (Sub.cons rfl (Sub.cons rfl (Sub.cons rfl (Sub.cons rfl Sub.nil)))))))))).drop (List.Sublist.cons _ (List.Sublist.cons_cons _ (List.Sublist.refl _)))).less (fun _ h => h.1.1)
      · intro W a b16 hS
        dsimp only [List.cons_append, List.nil_append] at hS
        refine wpIn_seq ?_
        refine wpIn_region_lit ?_
        refine st_v hS rfl rfl (run_load_all (i := 2) Try.isAgg27 Try.sizeOf27 hS rfl rfl rfl) fun a hS => st_v hS rfl rfl (run_load_all (i := 1) Try.isAgg36 Try.sizeOf36 hS rfl rfl rfl) fun a hS => st_v hS rfl rfl (run_move hS rfl) fun a hS => st_call (ref02_Descent Vr r A sdr dr (Hr _ hS.below) (Hdr _ hS.below)) Try.call46 hS rfl rfl rfl fun v W a hR hB hlt hS => ?_
        subst hR
        refine st_v hS rfl rfl (run_move hS rfl) fun a hS => st_v hS rfl rfl (run_extract hS rfl rfl) fun a hS => st_v hS rfl rfl (run_extract hS rfl rfl) fun a hS => st_v hS rfl rfl (run_extract hS rfl rfl) fun a hS => st_alloc_agg Try.zeroValue34 hS rfl rfl fun W a b17 hS => st_store (i := 0) Try.sizeOf34 hS rfl rfl rfl rfl rfl rfl rfl rfl rfl fun W a hS => st_v hS rfl rfl (run_assign hS rfl) fun a hS => st_v hS rfl rfl (run_assign hS rfl) fun a hS => wl_nil ?_
        refine wpIn_seq ?_
        refine wpIn_region_lit ?_
        refine st_v hS rfl rfl (run_load_all (i := 1) Try.isAgg34 Try.sizeOf34 hS rfl rfl rfl) fun a hS => st_v hS rfl rfl (run_load_all (i := 0) Try.isAgg34 Try.sizeOf34 hS rfl rfl rfl) fun a hS => st_v hS rfl rfl (run_test hS rfl rfl (fun W => eqS34 _ _ _ _ _ _ W)) fun a hS => st_v hS rfl rfl (run_move hS rfl) fun a hS => ?_
        refine st_split (d := 43) hS rfl (fun hc3 hS => ?_) (fun hc3 hS => ?_)
        · skip
          try simp only [decide_eq_true_eq, decide_eq_false_iff_not, Bool.not_eq_true', Bool.not_eq_false', bne_iff_ne, beq_iff_eq, bne_eq_false_iff_eq, beq_eq_false_iff_ne, ne_eq, Int.not_le, Int.not_lt, ge_iff_le, gt_iff_lt] at hc3
          
          refine st_v hS (hS.wanted rfl rfl rfl) rfl (run_move hS rfl) fun a hS => st_v hS (hS.wanted rfl rfl rfl) rfl (run_move hS rfl) fun a hS => st_v hS (hS.wanted rfl rfl rfl) rfl (run_bin hS rfl rfl rfl) fun a hS => st_v hS rfl rfl (run_pick_t hS rfl rfl) fun a hS => st_v hS rfl rfl (run_move hS rfl) fun a hS => ?_
          refine st_split (d := 48) hS rfl (fun hc4 hS => ?_) (fun hc4 hS => ?_)
          · skip
            try simp only [decide_eq_true_eq, decide_eq_false_iff_not, Bool.not_eq_true', Bool.not_eq_false', bne_iff_ne, beq_iff_eq, bne_eq_false_iff_eq, beq_eq_false_iff_ne, ne_eq, Int.not_le, Int.not_lt, ge_iff_le, gt_iff_lt] at hc4
            
            refine st_v hS (hS.wanted rfl rfl rfl) rfl (run_move hS rfl) fun a hS => st_v hS (hS.wanted rfl rfl rfl) rfl (run_move hS rfl) fun a hS => st_v hS (hS.wanted rfl rfl rfl) rfl (run_bin hS rfl rfl rfl) fun a hS => st_v hS rfl rfl (run_pick_t hS rfl rfl) fun a hS => st_v hS rfl rfl (run_move hS rfl) fun a hS => ?_
            refine st_split (d := 53) hS rfl (fun hc5 hS => ?_) (fun hc5 hS => ?_)
            · skip
              try simp only [decide_eq_true_eq, decide_eq_false_iff_not, Bool.not_eq_true', Bool.not_eq_false', bne_iff_ne, beq_iff_eq, bne_eq_false_iff_eq, beq_eq_false_iff_ne, ne_eq, Int.not_le, Int.not_lt, ge_iff_le, gt_iff_lt] at hc5
              
              refine st_call (law02_works) Try.call16 hS (hS.wanted rfl rfl rfl) rfl rfl fun v W a hR hB hlt hS => ?_
              subst hR
              refine st_v hS rfl rfl (run_pick_t hS rfl rfl) fun a hS => st_v hS rfl rfl (run_assign hS rfl) fun a hS => wl_nil ?_
              refine wpIn_ret ?_
              repeat (first | refine q_ret ?_ | refine q_block_ret ?_)
              refine hS.done (res1 (fn := Try.f11) (r1 := .tmp 6) rfl (rv_tmp hS rfl)) ?_
              rfl
            · skip
              try simp only [decide_eq_true_eq, decide_eq_false_iff_not, Bool.not_eq_true', Bool.not_eq_false', bne_iff_ne, beq_iff_eq, bne_eq_false_iff_eq, beq_eq_false_iff_ne, ne_eq, Int.not_le, Int.not_lt, ge_iff_le, gt_iff_lt] at hc5
              simp at hc5
          · skip
            try simp only [decide_eq_true_eq, decide_eq_false_iff_not, Bool.not_eq_true', Bool.not_eq_false', bne_iff_ne, beq_iff_eq, bne_eq_false_iff_eq, beq_eq_false_iff_ne, ne_eq, Int.not_le, Int.not_lt, ge_iff_le, gt_iff_lt] at hc4
            simp at hc4
        · skip
          try simp only [decide_eq_true_eq, decide_eq_false_iff_not, Bool.not_eq_true', Bool.not_eq_false', bne_iff_ne, beq_iff_eq, bne_eq_false_iff_eq, beq_eq_false_iff_ne, ne_eq, Int.not_le, Int.not_lt, ge_iff_le, gt_iff_lt] at hc3
          simp at hc3

end Go.Proofs.Ytdnodlgebpnfoaa
