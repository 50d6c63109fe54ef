/- The statement RotorGlides, walked. -/
import Derived.Test.YtdnodlgebpnfoaaLawKept
namespace Go.Proofs.Ytdnodlgebpnfoaa
open Go Go.RowKit Go.Shelf Sw
set_option linter.unusedVariables false
set_option linter.unusedSimpArgs false

theorem t3s {p q p' q' : Span} {e e' : Int} (h1 : p = p') (h2 : q = q') (h3 : e = e') : Value.tuple #[.agg (spanC p).toArray, .agg (spanC q).toArray, .int .i64 e] = .tuple #[.agg (spanC p').toArray, .agg (spanC q').toArray, .int .i64 e'] := by subst h1 h2 h3; rfl


set_option maxHeartbeats 2000000 in
set_option maxRecDepth 100000 in
theorem rotor_gl1 {Vr : RV} {r : Rot} {A : Air} {n : Int} {Fr : Nat → Prop} (pc0 : Addr) (pc1 : Addr) (pc2 : Addr) {w : World} (hc0 : CellsAt w pc0 (rotC Vr r)) (hc1 : w.cell? pc1 = some (.int .i64 n)) (hc2 : CellsAt w pc2 (airC A)) (hrr : RotR Fr w Vr r) : Ret Try.prog 89 [.pointer (some pc0), .pointer (some pc1), .pointer (some pc2)] w (fun v _ => v = .agg (lookC (⟨Vr.glide, r.glide, (one n), A.weight⟩ : LookV)).toArray) := by
  refine ret_start (n := 11) Try.func89 rfl rfl rfl (fun a hS => ?_)
  have Hc0 : ∀ W, Below w.heap.size w W → CellsAt W pc0 (rotC Vr r) := fun W hb => hc0.at_ hb
  have Hc1 : ∀ W, Below w.heap.size w W → W.cell? pc1 = some (.int .i64 n) := fun W hb => cell_at hc1 hb
  have Hc2 : ∀ W, Below w.heap.size w W → CellsAt W pc2 (airC A) := fun W hb => hc2.at_ hb
  have Hr : ∀ W, Below w.heap.size w W → RotR Fr W Vr r := fun W hb => hrr.move (keep_of hb)
  refine wpIn_seq ?_
  refine wpIn_region_lit ?_
  refine st_alloc_agg Try.zeroValue115 hS rfl rfl fun W a b0 hS => wl_nil ?_
  refine wpIn_seq ?_
  have hlt0 := fun B hB => hS.lt (b := B) hB
  refine st_mix (k := 7) (by kernel_rfl) (by kernel_rfl) hS rfl rfl ?_
  refine mx_v (fun a W hS hB => run_fieldAddrE fe27_7 hS rfl) <| mx_v (fun a W hS hB => run_load_ext (vs := [_, _, _]) Try.isAgg25 Try.sizeOf25 hS rfl rfl (CellsAt.sub (Hc0 _ hS.below) (off := 21) ⟨rfl, rfl, rfl, trivial⟩)) <| mx_v (fun a W hS hB => run_load_cell Try.isAgg3 hS rfl (Hc1 _ hS.below)) <| mx_call Try.call90 rfl (fun a W hS hB => rotor_one) <| mx_v (fun a W hS hB => run_fieldAddrE fe36_0 hS rfl) <| mx_v (fun a W hS hB => run_load_ext (vs := [_, _]) Try.isAgg34 Try.sizeOf34 hS rfl rfl (CellsAt.sub (Hc2 _ hS.below) (off := 0) ⟨rfl, rfl, trivial⟩)) <| mx_v (fun a W hS hB => run_build (pv := [(0, .agg #[.slice _ _ _, .slice _ _ _, .slice _ _ _]), (1, .agg #[.int .i64 _, .int .i64 _]), (2, .agg #[.int .i64 _, .int .i64 _])]) (fun W => bd115_0_1_2 _ _ _ _ _ _ _ _ _ _ _ _ _ W) hS rfl) <| ?_
  refine mx_end fun a W bs us hS hB hL => ?_
  dsimp only [kall, ball, List.cons_append, List.nil_append] at hS
  refine st_store (cs' := [.slice Vr.glide.x.a r.glide.X.length Vr.glide.x.c, .slice Vr.glide.y.a r.glide.Y.length Vr.glide.y.c, .slice Vr.glide.v.a r.glide.V.length Vr.glide.v.c, .int .i64 (((one n)).lo), .int .i64 (((one n)).hi), .int .i64 (((⟨A.weight.lo, A.weight.hi⟩ : Span)).lo), .int .i64 (((⟨A.weight.lo, A.weight.hi⟩ : Span)).hi)]) (i := 0) Try.sizeOf115 hS rfl rfl rfl rfl rfl rfl rfl rfl rfl fun W a hS => wl_nil ?_
  refine wpIn_ret ?_
  repeat (first | refine q_ret ?_ | refine q_block_ret ?_)
  refine hS.done (res1 (fn := Try.f89) (r1 := .cell 3 115) rfl (rv_agg (i := 0) Try.isAgg115 Try.sizeOf115 hS rfl rfl rfl)) ?_
  rfl


set_option maxHeartbeats 2000000 in
set_option maxRecDepth 100000 in
theorem rotor_gl2 {Vr : RV} {r : Rot} {A : Air} {n : Int} {Fr : Nat → Prop} {q0 q1 q2 : Addr} (pc0 : Addr) {w : World} (hc0 : w.cell? pc0 = some (.func (.func 89) #[] #[.pointer (some q0), .pointer (some q1), .pointer (some q2)])) (hq0 : CellsAt w q0 (rotC Vr r)) (hq1 : w.cell? q1 = some (.int .i64 n)) (hq2 : CellsAt w q2 (airC A)) (hrr : RotR Fr w Vr r) : Ret Try.prog 91 [.pointer (some pc0)] w (fun v W' => ∃ s : SV, v = .slice s.a (([⟨Vr.glide, r.glide, (one n), A.weight⟩] : List LookV)).length s.c ∧ Sl kLook (fun k => w.heap.size ≤ k) W' s ([⟨Vr.glide, r.glide, (one n), A.weight⟩] : List LookV)) := by
  refine ret_start (n := 5) Try.func91 rfl rfl rfl (fun a hS => ?_)
  have Hc0 : ∀ W, Below w.heap.size w W → W.cell? pc0 = some (.func (.func 89) #[] #[.pointer (some q0), .pointer (some q1), .pointer (some q2)]) := fun W hb => cell_at hc0 hb
  have Hr : ∀ W, Below w.heap.size w W → RotR Fr W Vr r := fun W hb => hrr.move (keep_of hb)
  refine wpIn_seq ?_
  refine wpIn_region_lit ?_
  refine st_v hS rfl rfl (run_assign hS rfl) fun a hS => wl_nil ?_
  refine wpIn_seq ?_
  refine wpIn_region_lit ?_
  refine st_v hS rfl rfl (run_load_cell Try.isAgg120 hS rfl (Hc0 _ hS.below)) fun a hS => st_callv hS rfl rfl (Try.call89) (rotor_gl1 _ _ _ (hq0.at_ hS.below) (cell_at hq1 hS.below) (hq2.at_ hS.below) (Hr _ hS.below)) rfl rfl fun v W a hR hB hlt hS => ?_
  subst hR
  refine st_buildSlice (pv := [(0, .agg #[.slice _ _ _, .slice _ _ _, .slice _ _ _, .int .i64 _, .int .i64 _, .int .i64 _, .int .i64 _])]) (fun W => bs113_1_0 _ _ _ _ _ _ _ _ _ _ _ _ _ W) hS rfl rfl rfl fun W a b0 hS => st_v hS rfl rfl (run_assign hS rfl) fun a hS => wl_nil ?_
  refine wpIn_ret ?_
  repeat (first | refine q_ret ?_ | refine q_block_ret ?_)
  refine hS.done (res1 (fn := Try.f91) (r1 := .tmp 1) rfl (rv_tmp hS rfl)) ?_
  exact ⟨⟨some ⟨b0, 0, none⟩, 1⟩, rfl, own_new (enc := lookC) (nn := 7) (bb := 104) (hb := by decide) (hl := fun _ => rfl) ([⟨Vr.glide, r.glide, (one n), A.weight⟩] : List LookV) hS (i := 0) rfl rfl (Nat.le_of_ble_eq_true rfl)⟩


set_option maxHeartbeats 2000000 in
set_option maxRecDepth 100000 in
theorem rotor_gl3 {g : Span} {m : Int} (pc0 : Addr) {w : World} (hc0 : CellsAt w pc0 (spanC g)) (hm : 0 ≤ m ∧ m ≤ 1000000000000) (hg : 1 ≤ g.lo ∧ g.lo ≤ g.hi ∧ g.hi ≤ 10000) : Ret Try.prog 92 [.int .i64 m, .pointer (some pc0)] w (fun v _ => v = .agg (spanC (⟨m / g.hi, (m + g.lo - 1) / g.lo⟩ : Span)).toArray) := by
  refine ret_start (n := 17) Try.func92 rfl rfl rfl (fun a hS => ?_)
  have Hc0 : ∀ W, Below w.heap.size w W → CellsAt W pc0 (spanC g) := fun W hb => hc0.at_ hb
  refine wpIn_seq ?_
  refine wpIn_region_lit ?_
  refine st_alloc_agg Try.zeroValue34 hS rfl rfl fun W a b0 hS => wl_nil ?_
  refine wpIn_seq ?_
  have hlt0 := fun B hB => hS.lt (b := B) hB
  refine st_mix (k := 13) (by kernel_rfl) (by kernel_rfl) hS rfl rfl ?_
  refine mx_v (fun a W hS hB => run_move hS rfl) <| mx_v (fun a W hS hB => run_fieldAddrE fe34_1 hS rfl) <| mx_v (fun a W hS hB => run_load_cell Try.isAgg3 hS rfl (Hc0 _ hS.below 1 _ rfl)) <| mx_v (fun a W hS hB => run_div (t := (m / g.hi)) hS rfl rfl (by omega) (by exact Int.tdiv_eq_ediv_of_nonneg (by omega)) (by have := Int.ediv_le_self (a := m) g.hi (by omega); have := Int.ediv_nonneg (a := m) (b := g.hi) (by omega) (by omega); omega)) <| mx_v (fun a W hS hB => run_move hS rfl) <| mx_v (fun a W hS hB => run_fieldAddrE fe34_0 hS rfl) <| mx_v (fun a W hS hB => run_load_cell Try.isAgg3 hS rfl (Hc0 _ hS.below 0 _ rfl)) <| mx_v (fun a W hS hB => run_add (t := m + g.lo) hS rfl rfl (rfl) (by omega) (by omega)) <| mx_v (fun a W hS hB => run_sub (t := (m + g.lo) - 1) hS rfl rfl (rfl) (by omega) (by omega)) <| mx_v (fun a W hS hB => run_fieldAddrE fe34_0 hS rfl) <| mx_v (fun a W hS hB => run_load_cell Try.isAgg3 hS rfl (Hc0 _ hS.below 0 _ rfl)) <| mx_v (fun a W hS hB => run_div (t := ((m + g.lo - 1) / g.lo)) hS rfl rfl (by omega) (by exact Int.tdiv_eq_ediv_of_nonneg (by omega)) (by have := Int.ediv_le_self (a := m + g.lo - 1) g.lo (by omega); have := Int.ediv_nonneg (a := m + g.lo - 1) (b := g.lo) (by omega) (by omega); omega)) <| mx_v (fun a W hS hB => run_build (pv := [(0, .int .i64 _), (1, .int .i64 _)]) (fun W => bd34_0_1 _ _ W) hS rfl) <| ?_
  refine mx_end fun a W bs us hS hB hL => ?_
  dsimp only [kall, ball, List.cons_append, List.nil_append] at hS
  refine st_store (i := 0) Try.sizeOf34 hS rfl rfl rfl rfl rfl rfl rfl rfl rfl fun W a hS => wl_nil ?_
  refine wpIn_ret ?_
  repeat (first | refine q_ret ?_ | refine q_block_ret ?_)
  refine hS.done (res1 (fn := Try.f92) (r1 := .cell 3 34) rfl (rv_agg (i := 0) Try.isAgg34 Try.sizeOf34 hS rfl rfl rfl)) ?_
  rfl


set_option maxHeartbeats 8000000 in
set_option maxRecDepth 100000 in
theorem rotor_Glide  (Vr : RV) (r : Rot) (A : Air) {n : Int} {k : Int} {w : World} {Fr : Nat → Prop} (hr : RotR Fr w Vr r)  : Ret Try.prog 36 [.agg (rotC Vr r).toArray, .agg (airC A).toArray, .int .i64 n, .int .i64 k] w (fun v _ => v = .tuple #[.agg (spanC (glide1V r A n k)).toArray, .agg (spanC (glide2V r A n k)).toArray, .int .i64 (glideE r A n k)]) := by
  refine ret_start (n := 59) Try.func36 rfl rfl rfl (fun a hS => ?_)
  have Hr : ∀ W, Below w.heap.size w W → RotR Fr W Vr r := fun W hb => hr.move (keep_of hb)
  refine wpIn_seq ?_
  refine wpIn_region_lit ?_
  refine st_box_agg hS rfl rfl rfl fun W a b0 hS => st_box_agg hS rfl rfl rfl fun W a b1 hS => st_box_one hS rfl rfl rfl rfl fun W a b2 hS => st_alloc_agg Try.zeroValue34 hS rfl rfl fun W a b3 hS => st_alloc_agg Try.zeroValue34 hS rfl rfl fun W a b4 hS => st_v hS rfl rfl (run_assign hS rfl) fun a hS => wl_nil ?_
  refine wpIn_seq ?_
  refine wpIn_region_lit ?_
  refine st_v hS rfl rfl (run_makeFunc hS rfl rfl) fun a hS => st_alloc_one Try.zeroValue120 rfl hS rfl rfl fun W a b5 hS => st_store (i := 0) Try.sizeOf120 hS rfl rfl rfl rfl rfl rfl rfl rfl rfl fun W a hS => wl_nil ?_
  refine wpIn_seq ?_
  refine wpIn_seq ?_
  refine wpIn_region_lit ?_
  refine st_v hS rfl rfl (run_load_all (i := 5) Try.isAgg27 Try.sizeOf27 hS rfl rfl rfl) fun a hS => st_v hS rfl rfl (run_load_all (i := 4) Try.isAgg36 Try.sizeOf36 hS rfl rfl rfl) fun a hS => st_v hS rfl rfl (run_makeFunc hS rfl rfl) fun a hS => st_call (rotor_check Vr r A (⟨none, 0⟩ : SV) [] 91 [.pointer (some ⟨b5, 0, none⟩)] ([⟨Vr.glide, r.glide, (one n), A.weight⟩] : List LookV) (Hr _ hS.below) (sl_nil kSpan (fun _ => True) _) Try.call91 (fun W' hb _ => rotor_gl2 _ (hS.cell0 (i := 0) rfl _ hb) (hS.cells (i := 5) rfl _ hb) (hS.cell0 (i := 3) rfl _ hb) (hS.cells (i := 4) rfl _ hb) (hr.move (keep_of (hS.below.trans (hb.mono hS.below.size))))) (fun hrok x hx => by
    have hRp := rot_p hrok
    have hr' := Hr _ hS.below
    simp only [List.mem_cons, List.not_mem_nil, or_false] at hx
    subst hx
    exact ⟨hr'.glide, hRp.glide.1⟩)) Try.call71 hS rfl rfl rfl fun v W a hR hB hlt hS => ?_
  rw [show errC r A (([] : List Span).all Span.ok && ([⟨Vr.glide, r.glide, (one n), A.weight⟩] : List LookV).all fun x => liesT x.t x.p x.q) = errC r A (liesT r.glide (one n) A.weight) from errC_congr fun hrok => by
    simp] at hR
  subst hR
  refine st_v hS rfl rfl (run_assign hS rfl) fun a hS => wl_nil ?_
  refine wpIn_seq ?_
  refine wpIn_region_lit ?_
  refine st_v hS rfl rfl (run_move hS rfl) fun a hS => st_v hS rfl rfl (run_bin hS rfl rfl rfl) fun a hS => wl_nil ?_
  refine st_cond hS rfl (fun hc1 => ?_) (fun hc1 => ?_)
  · skip
    try simp only [decide_eq_true_eq, decide_eq_false_iff_not, Bool.not_eq_true', Bool.not_eq_false', bne_iff_ne, beq_iff_eq, bne_eq_false_iff_eq, beq_eq_false_iff_ne, ne_eq, Int.not_le, Int.not_lt, ge_iff_le, gt_iff_lt] at hc1
    refine wpIn_seq ?_
    refine wpIn_region_lit ?_
    refine st_v hS rfl rfl (run_build (pv := []) (fun W => bd34_ W) hS rfl) fun a hS => st_v hS rfl rfl (run_build (pv := []) (fun W => bd34_ W) hS rfl) fun a hS => st_v hS rfl rfl (run_move hS rfl) fun a hS => st_store (i := 2) Try.sizeOf34 hS rfl rfl rfl rfl rfl rfl rfl rfl rfl fun W a hS => st_store (i := 1) Try.sizeOf34 hS rfl rfl rfl rfl rfl rfl rfl rfl rfl fun W a hS => st_v hS rfl rfl (run_assign hS rfl) fun a hS => wl_nil ?_
    refine wpIn_ret ?_
    repeat (first | refine q_ret ?_ | refine q_block_ret ?_)
    refine hS.done (res3 (fn := Try.f36) (r1 := .cell 8 34) (r2 := .cell 9 34) (r3 := .tmp 10) rfl (rv_agg (i := 2) Try.isAgg34 Try.sizeOf34 hS rfl rfl rfl) (rv_agg (i := 1) Try.isAgg34 Try.sizeOf34 hS rfl rfl rfl) (rv_tmp hS rfl)) ?_
    have hE : glideE r A n k = errC r A (liesT r.glide (one n) A.weight) := by unfold glideE onGlide; rw [errC_andN hc1, if_neg hc1]
    exact t3s (p := ⟨0, 0⟩) (q := ⟨0, 0⟩) (by rw [glide1V, hE, if_neg hc1]) (by rw [glide2V, hE, if_neg hc1]) hE.symm
  · skip
    try simp only [decide_eq_true_eq, decide_eq_false_iff_not, Bool.not_eq_true', Bool.not_eq_false', bne_iff_ne, beq_iff_eq, bne_eq_false_iff_eq, beq_eq_false_iff_ne, ne_eq, Int.not_le, Int.not_lt, ge_iff_le, gt_iff_lt] at hc1
    obtain ⟨hrok, haok, hlg⟩ := errC_ok hc1
    obtain ⟨hA1, hA2, hA3, hA4⟩ := (airOk_iff A).1 haok
    have hRp := rot_p hrok
    have h1ok := one_lies hRp.glide.1 hlg
    have hg := glide_in hrok haok h1ok hlg
    refine wpIn_skip ?_
    refine wpIn_seq ?_
    refine wpIn_seq ?_
    refine wpIn_region_lit ?_
    refine st_v hS rfl rfl (run_load_one (i := 3) Try.isAgg3 hS rfl rfl rfl) fun a hS => st_call (rotor_within) Try.call58 hS rfl rfl rfl fun v W a hR hB hlt hS => ?_
    subst hR
    refine st_v hS rfl rfl (run_not hS rfl) fun a hS => st_v hS rfl rfl (run_move hS rfl) fun a hS => ?_
    refine st_split (d := 28) hS rfl (fun hc2 hS => ?_) (fun hc2 hS => ?_)
    · skip
      try simp only [decide_eq_true_eq, decide_eq_false_iff_not, Bool.not_eq_true', Bool.not_eq_false', bne_iff_ne, beq_iff_eq, bne_eq_false_iff_eq, beq_eq_false_iff_ne, ne_eq, Int.not_le, Int.not_lt, ge_iff_le, gt_iff_lt] at hc2
      refine st_skip hS (hS.unwanted rfl rfl rfl rfl) rfl fun a hS => st_skip hS (hS.unwanted rfl rfl rfl rfl) rfl fun a hS => st_skip hS (hS.unwanted rfl rfl rfl rfl) rfl fun a hS => st_v hS rfl rfl (run_pick_t hS rfl rfl) fun a hS => wl_nil ?_
      refine st_cond_t hS rfl ?_
      refine wpIn_seq ?_
      refine wpIn_region_lit ?_
      refine st_v hS rfl rfl (run_build (pv := []) (fun W => bd34_ W) hS rfl) fun a hS => st_v hS rfl rfl (run_build (pv := []) (fun W => bd34_ W) hS rfl) fun a hS => st_store (i := 2) Try.sizeOf34 hS rfl rfl rfl rfl rfl rfl rfl rfl rfl fun W a hS => st_store (i := 1) Try.sizeOf34 hS rfl rfl rfl rfl rfl rfl rfl rfl rfl fun W a hS => st_v hS rfl rfl (run_assign hS rfl) fun a hS => wl_nil ?_
      refine wpIn_ret ?_
      repeat (first | refine q_ret ?_ | refine q_block_ret ?_)
      refine hS.done (res3 (fn := Try.f36) (r1 := .cell 8 34) (r2 := .cell 9 34) (r3 := .tmp 10) rfl (rv_agg (i := 2) Try.isAgg34 Try.sizeOf34 hS rfl rfl rfl) (rv_agg (i := 1) Try.isAgg34 Try.sizeOf34 hS rfl rfl rfl) (rv_tmp hS rfl)) ?_
      have hf : onGlide r A n k = false := by simp [onGlide, hc1, hc2]
      have hE : glideE r A n k = 1 := by unfold glideE; rw [errC_tf hrok haok hf]; rfl
      exact t3s (p := ⟨0, 0⟩) (q := ⟨0, 0⟩) (by rw [glide1V, hE]; rfl) (by rw [glide2V, hE]; rfl) hE.symm
    · skip
      try simp only [decide_eq_true_eq, decide_eq_false_iff_not, Bool.not_eq_true', Bool.not_eq_false', bne_iff_ne, beq_iff_eq, bne_eq_false_iff_eq, beq_eq_false_iff_ne, ne_eq, Int.not_le, Int.not_lt, ge_iff_le, gt_iff_lt] at hc2
      
      refine st_v hS (hS.wanted rfl rfl rfl) rfl (run_move hS rfl) fun a hS => st_call (rotor_within) Try.call58 hS (hS.wanted rfl rfl rfl) rfl rfl fun v W a hR hB hlt hS => ?_
      subst hR
      refine st_v hS (hS.wanted rfl rfl rfl) rfl (run_not hS rfl) fun a hS => st_v hS rfl rfl (run_pick_f hS rfl rfl) fun a hS => wl_nil ?_
      refine st_cond hS rfl (fun hc3 => ?_) (fun hc3 => ?_)
      · skip
        try simp only [decide_eq_true_eq, decide_eq_false_iff_not, Bool.not_eq_true', Bool.not_eq_false', bne_iff_ne, beq_iff_eq, bne_eq_false_iff_eq, beq_eq_false_iff_ne, ne_eq, Int.not_le, Int.not_lt, ge_iff_le, gt_iff_lt] at hc3
        refine wpIn_seq ?_
        refine wpIn_region_lit ?_
        refine st_v hS rfl rfl (run_build (pv := []) (fun W => bd34_ W) hS rfl) fun a hS => st_v hS rfl rfl (run_build (pv := []) (fun W => bd34_ W) hS rfl) fun a hS => st_store (i := 2) Try.sizeOf34 hS rfl rfl rfl rfl rfl rfl rfl rfl rfl fun W a hS => st_store (i := 1) Try.sizeOf34 hS rfl rfl rfl rfl rfl rfl rfl rfl rfl fun W a hS => st_v hS rfl rfl (run_assign hS rfl) fun a hS => wl_nil ?_
        refine wpIn_ret ?_
        repeat (first | refine q_ret ?_ | refine q_block_ret ?_)
        refine hS.done (res3 (fn := Try.f36) (r1 := .cell 8 34) (r2 := .cell 9 34) (r3 := .tmp 10) rfl (rv_agg (i := 2) Try.isAgg34 Try.sizeOf34 hS rfl rfl rfl) (rv_agg (i := 1) Try.isAgg34 Try.sizeOf34 hS rfl rfl rfl) (rv_tmp hS rfl)) ?_
        have hf : onGlide r A n k = false := by simp [onGlide, hc1, hc2, hc3]
        have hE : glideE r A n k = 1 := by unfold glideE; rw [errC_tf hrok haok hf]; rfl
        exact t3s (p := ⟨0, 0⟩) (q := ⟨0, 0⟩) (by rw [glide1V, hE]; rfl) (by rw [glide2V, hE]; rfl) hE.symm
      · skip
        try simp only [decide_eq_true_eq, decide_eq_false_iff_not, Bool.not_eq_true', Bool.not_eq_false', bne_iff_ne, beq_iff_eq, bne_eq_false_iff_eq, beq_eq_false_iff_ne, ne_eq, Int.not_le, Int.not_lt, ge_iff_le, gt_iff_lt] at hc3
        have hin : (0 ≤ n ∧ n ≤ 1000000) ∧ (0 ≤ k ∧ k ≤ 1000000) := by
          simp only [within, Bool.and_eq_true, decide_eq_true_eq] at *; omega
        have hpr := prod_in hin.1.1 hin.1.2 hin.2.1 hin.2.2
        have hon : onGlide r A n k = true := by simp [onGlide, within, hlg, hin]
        have hE0 : errC r A (onGlide r A n k) = 0 := errC_of hrok haok hon
        refine wpIn_skip ?_
        refine wpIn_seq ?_
        refine wpIn_region_lit ?_
        refine st_v hS rfl rfl (run_load_one (i := 0) Try.isAgg120 hS rfl rfl rfl) fun a hS => st_callv hS rfl rfl (Try.call89) (rotor_gl1 _ _ _ (hS.cells (i := 5) rfl _ (Below.refl _ _)) (hS.cell0 (i := 3) rfl _ (Below.refl _ _)) (hS.cells (i := 4) rfl _ (Below.refl _ _)) (Hr _ hS.below)) rfl rfl fun v W a hR hB hlt hS => ?_
        subst hR
        refine st_call (rotor_bound (⟨Vr.glide, r.glide, (one n), A.weight⟩ : LookV) ((fun W hC => (Hr W hC).glide) _ hS.below) (by exact hRp.glide.1) (by exact h1ok) (by exact hA1) (by exact hlg)) Try.call84 hS rfl rfl rfl fun v W a hR hB hlt hS => ?_
        subst hR
        refine st_alloc_agg Try.zeroValue34 hS rfl rfl fun W a b6 hS => st_store (i := 0) Try.sizeOf34 hS rfl rfl rfl rfl rfl rfl rfl rfl rfl fun W a hS => wl_nil ?_
        refine wpIn_seq ?_
        refine wpIn_region_lit ?_
        refine st_v hS rfl rfl (run_makeFunc hS rfl rfl) fun a hS => st_v hS rfl rfl (run_assign hS rfl) fun a hS => wl_nil ?_
        refine wpIn_seq ?_
        have hS := hS.sub (κ' := [(0, _), (1, _), (2, _), (3, _), (4, _), (5, _), (6, _), (8, _), (9, _), (10, _), (11, _), (12, _), (13, _), (14, _)]) (Sub.cons rfl (Sub.cons rfl (Sub.cons rfl (Sub.cons rfl (Sub.cons rfl (Sub.cons rfl (Sub.cons rfl (Sub.cons rfl (Sub.cons rfl (Sub.cons rfl (Sub.cons rfl (Sub.cons rfl (Sub.cons rfl (Sub.cons rfl Sub.nil))))))))))))))
        refine st_cutB [(3, spanC (glideBy r A n k)), (2, spanC (glideBy r A n (n * k)))] hS ?_ (fun W a hS => ?_)
        · skip
          refine anyh_start (by kernel_rfl) [true, true, false, false, true, true, true] hS fun W hS => ?_
          refine anyh_take (i := 0) [true, true, false, false, true, true, true] hS (fun _ h => h) rfl rfl (by kernel_rfl) (by kernel_rfl) (by kernel_rfl) rfl rfl (fun W' hS => run_move hS rfl) fun a hS => ?_
          refine anyh_take (i := 1) [true, true, false, false, true, true, true] hS (fun _ h => h) rfl rfl (by kernel_rfl) (by kernel_rfl) (by kernel_rfl) rfl rfl (fun W' hS => run_move hS rfl) fun a hS => ?_
          refine anyh_take (i := 3) [true, true, false, false, true, true, true] hS (fun _ h => h) rfl rfl (by kernel_rfl) (by kernel_rfl) (by kernel_rfl) rfl rfl (fun W' hS => run_move hS rfl) fun a hS => ?_
          refine anyh_take (i := 4) [true, true, false, false, true, true, true] hS (fun _ h => h) rfl rfl (by kernel_rfl) (by kernel_rfl) (by kernel_rfl) rfl rfl (fun W' hS => run_load_one (i := 2) Try.isAgg3 hS rfl rfl rfl) fun a hS => ?_
          refine anyh_take (i := 5) [true, true, false, false, true, true, true] hS (fun _ h => h) rfl rfl (by kernel_rfl) (by kernel_rfl) (by kernel_rfl) rfl rfl (fun W' hS => run_move hS rfl) fun a hS => ?_
          refine anyh_take (i := 6) [true, true, false, false, true, true, true] hS (fun _ h => h) rfl rfl (by kernel_rfl) (by kernel_rfl) (by kernel_rfl) rfl rfl (fun W' hS => run_mul (t := (n * k)) hS rfl rfl (by rfl) (by omega)) fun a hS => ?_
          refine anyh_go (rs := [2]) (by kernel_rfl) (by simp) ⟨⟨_, rfl, ?_⟩, trivial⟩
          refine st_callv hS rfl rfl (Try.call92) (rotor_gl3 (m := k) _ (hS.cells (i := 0) rfl _ (Below.refl _ _)) (by omega) (by omega)) rfl rfl fun v W a hR hB hlt hS => ?_
          subst hR
          refine wl_nil ?_
          refine anyh_next [true, true, false, false, true, true, true] hS (fun _ h => h) rfl ?_
          refine anyh_go (rs := [7]) (by kernel_rfl) (by simp) ⟨⟨_, rfl, ?_⟩, trivial⟩
          refine st_callv hS rfl rfl (Try.call92) (rotor_gl3 (m := n * k) _ (hS.cells (i := 0) rfl _ (Below.refl _ _)) (by omega) (by omega)) rfl rfl fun v W a hR hB hlt hS => ?_
          subst hR
          refine wl_nil ?_
          refine anyh_next [true, true, false, false, true, true, true] hS (fun _ h => h) rfl ?_
          refine anyh_go (rs := [8]) (by kernel_rfl) (by simp) ⟨⟨_, rfl, ?_⟩, trivial⟩
          refine st_store (i := 3) Try.sizeOf34 hS rfl rfl rfl rfl rfl rfl rfl rfl rfl fun W a hS => wl_nil ?_
          refine anyh_next [true, true, false, false, true, true, true] hS (fun _ h => h) rfl ?_
          refine anyh_go (rs := [9]) (by kernel_rfl) (by simp) ⟨⟨_, rfl, ?_⟩, trivial⟩
          refine st_store (i := 2) Try.sizeOf34 hS rfl rfl rfl rfl rfl rfl rfl rfl rfl fun W a hS => wl_nil ?_
          refine anyh_next [true, true, false, false, true, true, true] hS (fun _ h => h) rfl ?_
          refine anyh_done (by kernel_rfl) ?_ _
          exact cut_end (hS.sub (Sub.cons rfl (Sub.cons rfl (Sub.cons rfl (Sub.cons rfl (Sub.cons rfl (Sub.cons rfl (Sub.cons rfl (Sub.cons rfl (Sub.cons rfl (Sub.cons rfl (Sub.cons rfl (Sub.cons rfl (Sub.cons rfl (Sub.cons rfl Sub.nil)))))))))))))))
        · skip
          dsimp only [setB, List.foldl] at hS
          refine wpIn_seq ?_
          refine wpIn_seq ?_
          refine wpIn_region_lit ?_
          refine st_v hS rfl rfl (run_load_all (i := 3) Try.isAgg34 Try.sizeOf34 hS rfl rfl rfl) fun a hS => st_call (rotor_valid (glideBy r A n k)) Try.call93 hS rfl rfl rfl fun v W a hR hB hlt hS => ?_
          subst hR
          refine st_v hS rfl rfl (run_not hS rfl) fun a hS => st_v hS rfl rfl (run_move hS rfl) fun a hS => ?_
          refine st_split (d := 50) hS rfl (fun hc4 hS => ?_) (fun hc4 hS => ?_)
          · skip
            try simp only [decide_eq_true_eq, decide_eq_false_iff_not, Bool.not_eq_true', Bool.not_eq_false', bne_iff_ne, beq_iff_eq, bne_eq_false_iff_eq, beq_eq_false_iff_ne, ne_eq, Int.not_le, Int.not_lt, ge_iff_le, gt_iff_lt] at hc4
            refine st_skip hS (hS.unwanted rfl rfl rfl rfl) rfl fun a hS => st_skip hS (hS.unwanted rfl rfl rfl rfl) rfl fun a hS => st_skip hS (hS.unwanted rfl rfl rfl rfl) rfl fun a hS => st_v hS rfl rfl (run_pick_t hS rfl rfl) fun a hS => wl_nil ?_
            refine st_cond_t hS rfl ?_
            refine wpIn_seq ?_
            refine wpIn_region_lit ?_
            refine st_v hS rfl rfl (run_build (pv := []) (fun W => bd34_ W) hS rfl) fun a hS => st_v hS rfl rfl (run_build (pv := []) (fun W => bd34_ W) hS rfl) fun a hS => st_store (i := 3) Try.sizeOf34 hS rfl rfl rfl rfl rfl rfl rfl rfl rfl fun W a hS => st_store (i := 2) Try.sizeOf34 hS rfl rfl rfl rfl rfl rfl rfl rfl rfl fun W a hS => st_v hS rfl rfl (run_assign hS rfl) fun a hS => wl_nil ?_
            refine wpIn_ret ?_
            repeat (first | refine q_ret ?_ | refine q_block_ret ?_)
            refine hS.done (res3 (fn := Try.f36) (r1 := .cell 8 34) (r2 := .cell 9 34) (r3 := .tmp 10) rfl (rv_agg (i := 3) Try.isAgg34 Try.sizeOf34 hS rfl rfl rfl) (rv_agg (i := 2) Try.isAgg34 Try.sizeOf34 hS rfl rfl rfl) (rv_tmp hS rfl)) ?_
            have hE : glideE r A n k = 2 := by unfold glideE; rw [if_pos hE0, if_neg (by simp [hc1, hc2, hc3, hc4])]
            exact t3s (p := ⟨0, 0⟩) (q := ⟨0, 0⟩) (by rw [glide1V, hE]; rfl) (by rw [glide2V, hE]; rfl) hE.symm
          · skip
            try simp only [decide_eq_true_eq, decide_eq_false_iff_not, Bool.not_eq_true', Bool.not_eq_false', bne_iff_ne, beq_iff_eq, bne_eq_false_iff_eq, beq_eq_false_iff_ne, ne_eq, Int.not_le, Int.not_lt, ge_iff_le, gt_iff_lt] at hc4
            
            refine st_v hS (hS.wanted rfl rfl rfl) rfl (run_load_all (i := 2) Try.isAgg34 Try.sizeOf34 hS rfl rfl rfl) fun a hS => st_call (rotor_valid (glideBy r A n (n * k))) Try.call93 hS (hS.wanted rfl rfl rfl) rfl rfl fun v W a hR hB hlt hS => ?_
            subst hR
            refine st_v hS (hS.wanted rfl rfl rfl) rfl (run_not hS rfl) fun a hS => st_v hS rfl rfl (run_pick_f hS rfl rfl) fun a hS => wl_nil ?_
            refine st_cond hS rfl (fun hc5 => ?_) (fun hc5 => ?_)
            · skip
              try simp only [decide_eq_true_eq, decide_eq_false_iff_not, Bool.not_eq_true', Bool.not_eq_false', bne_iff_ne, beq_iff_eq, bne_eq_false_iff_eq, beq_eq_false_iff_ne, ne_eq, Int.not_le, Int.not_lt, ge_iff_le, gt_iff_lt] at hc5
              refine wpIn_seq ?_
              refine wpIn_region_lit ?_
              refine st_v hS rfl rfl (run_build (pv := []) (fun W => bd34_ W) hS rfl) fun a hS => st_v hS rfl rfl (run_build (pv := []) (fun W => bd34_ W) hS rfl) fun a hS => st_store (i := 3) Try.sizeOf34 hS rfl rfl rfl rfl rfl rfl rfl rfl rfl fun W a hS => st_store (i := 2) Try.sizeOf34 hS rfl rfl rfl rfl rfl rfl rfl rfl rfl fun W a hS => st_v hS rfl rfl (run_assign hS rfl) fun a hS => wl_nil ?_
              refine wpIn_ret ?_
              repeat (first | refine q_ret ?_ | refine q_block_ret ?_)
              refine hS.done (res3 (fn := Try.f36) (r1 := .cell 8 34) (r2 := .cell 9 34) (r3 := .tmp 10) rfl (rv_agg (i := 3) Try.isAgg34 Try.sizeOf34 hS rfl rfl rfl) (rv_agg (i := 2) Try.isAgg34 Try.sizeOf34 hS rfl rfl rfl) (rv_tmp hS rfl)) ?_
              have hE : glideE r A n k = 2 := by unfold glideE; rw [if_pos hE0, if_neg (by simp [hc1, hc2, hc3, hc4, hc5])]
              exact t3s (p := ⟨0, 0⟩) (q := ⟨0, 0⟩) (by rw [glide1V, hE]; rfl) (by rw [glide2V, hE]; rfl) hE.symm
            · skip
              try simp only [decide_eq_true_eq, decide_eq_false_iff_not, Bool.not_eq_true', Bool.not_eq_false', bne_iff_ne, beq_iff_eq, bne_eq_false_iff_eq, beq_eq_false_iff_ne, ne_eq, Int.not_le, Int.not_lt, ge_iff_le, gt_iff_lt] at hc5
              
              refine wpIn_skip ?_
              refine wpIn_seq ?_
              have hS := hS.sub (κ' := [(0, _), (1, _), (2, _), (3, _), (4, _), (5, _), (6, _), (8, _), (9, _), (10, _), (11, _), (12, _), (13, _), (14, _)]) (Sub.cons rfl (Sub.cons rfl (Sub.cons rfl (Sub.cons rfl (Sub.cons rfl (Sub.cons rfl (Sub.cons rfl (Sub.cons rfl (Sub.cons rfl (Sub.cons rfl (Sub.cons rfl (Sub.cons rfl (Sub.cons rfl (Sub.cons rfl Sub.nil))))))))))))))
              refine st_cutB [(3, spanC (glideBy r A n k)), (2, spanC (glideBy r A n (n * k)))] hS ?_ (fun W a hS => ?_)
              · skip
                refine anyh_start (by kernel_rfl) [true, true, false, false, true, true, true] hS fun W hS => ?_
                refine anyh_go (rs := [0, 1]) (by kernel_rfl) (by simp) ⟨⟨_, rfl, ?_⟩, ⟨_, rfl, ?_⟩, trivial⟩
                · skip
                  refine st_v hS rfl rfl (run_load_all (i := 3) Try.isAgg34 Try.sizeOf34 hS rfl rfl rfl) fun a hS => wl_nil ?_
                  refine anyh_next [true, true, false, false, true, true, true] hS (fun _ h => h) rfl ?_
                  refine anyh_go (rs := [1, 2]) (by kernel_rfl) (by simp) ⟨⟨_, rfl, ?_⟩, ⟨_, rfl, ?_⟩, trivial⟩
                  · skip
                    refine st_v hS rfl rfl (run_load_all (i := 2) Try.isAgg34 Try.sizeOf34 hS rfl rfl rfl) fun a hS => wl_nil ?_
                    refine anyh_next [true, true, false, false, true, true, true] hS (fun _ h => h) rfl ?_
                    refine anyh_go (rs := [2]) (by kernel_rfl) (by simp) ⟨⟨_, rfl, ?_⟩, trivial⟩
                    refine st_store (i := 3) Try.sizeOf34 hS rfl rfl rfl rfl rfl rfl rfl rfl rfl fun W a hS => wl_nil ?_
                    refine anyh_next [true, true, false, false, true, true, true] hS (fun _ h => h) rfl ?_
                    refine anyh_go (rs := [3]) (by kernel_rfl) (by simp) ⟨⟨_, rfl, ?_⟩, trivial⟩
                    refine st_store (i := 2) Try.sizeOf34 hS rfl rfl rfl rfl rfl rfl rfl rfl rfl fun W a hS => wl_nil ?_
                    refine anyh_next [true, true, false, false, true, true, true] hS (fun _ h => h) rfl ?_
                    refine anyh_take (i := 4) [true, true, false, false, true, true, true] hS (fun _ h => h) rfl rfl (by kernel_rfl) (by kernel_rfl) (by kernel_rfl) rfl rfl (fun W' hS => run_assign hS rfl) fun a hS => ?_
                    refine anyh_done (by kernel_rfl) ?_ _
                    exact cut_end (hS.sub (Sub.cons rfl (Sub.cons rfl (Sub.cons rfl (Sub.cons rfl (Sub.cons rfl (Sub.cons rfl (Sub.cons rfl (Sub.cons rfl (Sub.cons rfl (Sub.cons rfl (Sub.cons rfl (Sub.cons rfl (Sub.cons rfl (Sub.cons rfl Sub.nil)))))))))))))))
                  · skip
                    refine st_store (i := 3) Try.sizeOf34 hS rfl rfl rfl rfl rfl rfl rfl rfl rfl fun W a hS => wl_nil ?_
                    refine anyh_next [true, true, false, false, true, true, true] hS (fun _ h => h) rfl ?_
                    refine anyh_go (rs := [1]) (by kernel_rfl) (by simp) ⟨⟨_, rfl, ?_⟩, trivial⟩
                    refine st_v hS rfl rfl (run_load_all (i := 2) Try.isAgg34 Try.sizeOf34 hS rfl rfl rfl) fun a hS => wl_nil ?_
                    refine anyh_next [true, true, false, false, true, true, true] hS (fun _ h => h) rfl ?_
                    refine anyh_go (rs := [3]) (by kernel_rfl) (by simp) ⟨⟨_, rfl, ?_⟩, trivial⟩
                    refine st_store (i := 2) Try.sizeOf34 hS rfl rfl rfl rfl rfl rfl rfl rfl rfl fun W a hS => wl_nil ?_
                    refine anyh_next [true, true, false, false, true, true, true] hS (fun _ h => h) rfl ?_
                    refine anyh_take (i := 4) [true, true, false, false, true, true, true] hS (fun _ h => h) rfl rfl (by kernel_rfl) (by kernel_rfl) (by kernel_rfl) rfl rfl (fun W' hS => run_assign hS rfl) fun a hS => ?_
                    refine anyh_done (by kernel_rfl) ?_ _
                    exact cut_end (hS.sub (Sub.cons rfl (Sub.cons rfl (Sub.cons rfl (Sub.cons rfl (Sub.cons rfl (Sub.cons rfl (Sub.cons rfl (Sub.cons rfl (Sub.cons rfl (Sub.cons rfl (Sub.cons rfl (Sub.cons rfl (Sub.cons rfl (Sub.cons rfl Sub.nil)))))))))))))))
                · skip
                  refine st_v hS rfl rfl (run_load_all (i := 2) Try.isAgg34 Try.sizeOf34 hS rfl rfl rfl) fun a hS => wl_nil ?_
                  refine anyh_next [true, true, false, false, true, true, true] hS (fun _ h => h) rfl ?_
                  refine anyh_go (rs := [0]) (by kernel_rfl) (by simp) ⟨⟨_, rfl, ?_⟩, trivial⟩
                  refine st_v hS rfl rfl (run_load_all (i := 3) Try.isAgg34 Try.sizeOf34 hS rfl rfl rfl) fun a hS => wl_nil ?_
                  refine anyh_next [true, true, false, false, true, true, true] hS (fun _ h => h) rfl ?_
                  refine anyh_go (rs := [2]) (by kernel_rfl) (by simp) ⟨⟨_, rfl, ?_⟩, trivial⟩
                  refine st_store (i := 3) Try.sizeOf34 hS rfl rfl rfl rfl rfl rfl rfl rfl rfl fun W a hS => wl_nil ?_
                  refine anyh_next [true, true, false, false, true, true, true] hS (fun _ h => h) rfl ?_
                  refine anyh_go (rs := [3]) (by kernel_rfl) (by simp) ⟨⟨_, rfl, ?_⟩, trivial⟩
                  refine st_store (i := 2) Try.sizeOf34 hS rfl rfl rfl rfl rfl rfl rfl rfl rfl fun W a hS => wl_nil ?_
                  refine anyh_next [true, true, false, false, true, true, true] hS (fun _ h => h) rfl ?_
                  refine anyh_take (i := 4) [true, true, false, false, true, true, true] hS (fun _ h => h) rfl rfl (by kernel_rfl) (by kernel_rfl) (by kernel_rfl) rfl rfl (fun W' hS => run_assign hS rfl) fun a hS => ?_
                  refine anyh_done (by kernel_rfl) ?_ _
                  exact cut_end (hS.sub (Sub.cons rfl (Sub.cons rfl (Sub.cons rfl (Sub.cons rfl (Sub.cons rfl (Sub.cons rfl (Sub.cons rfl (Sub.cons rfl (Sub.cons rfl (Sub.cons rfl (Sub.cons rfl (Sub.cons rfl (Sub.cons rfl (Sub.cons rfl Sub.nil)))))))))))))))
              · skip
                dsimp only [setB, List.foldl] at hS
                refine wpIn_ret ?_
                repeat (first | refine q_ret ?_ | refine q_block_ret ?_)
                refine hS.done (res3 (fn := Try.f36) (r1 := .cell 8 34) (r2 := .cell 9 34) (r3 := .tmp 10) rfl (rv_agg (i := 3) Try.isAgg34 Try.sizeOf34 hS rfl rfl rfl) (rv_agg (i := 2) Try.isAgg34 Try.sizeOf34 hS rfl rfl rfl) (rv_tmp hS rfl)) ?_
                have hE : glideE r A n k = 0 := by unfold glideE; rw [if_pos hE0, if_pos (by simp [hc1, hc2, hc3, hc4, hc5])]
                exact t3s (p := glideBy r A n k) (q := glideBy r A n (n * k)) (by rw [glide1V, if_pos hE]) (by rw [glide2V, if_pos hE]) hE.symm


set_option maxHeartbeats 8000000 in
set_option maxRecDepth 100000 in
theorem ref02_Glide  (Vr : RV) (r : Rot) (A : Air) {n : Int} {k : Int} {w : World} {Fr : Nat → Prop} (hr : RotR Fr w Vr r)  : Ret Try.prog 37 [.agg (rotC Vr r).toArray, .agg (airC A).toArray, .int .i64 n, .int .i64 k] w (fun v _ => v = .tuple #[.agg (spanC (glide1V r A n k)).toArray, .agg (spanC (glide2V r A n k)).toArray, .int .i64 (glideE r A n k)]) := by
  refine ret_start (n := 84) Try.func37 rfl rfl rfl (fun a hS => ?_)
  have Hr : ∀ W, Below w.heap.size w W → RotR Fr W Vr r := fun W hb => hr.move (keep_of hb)
  refine wpIn_seq ?_
  refine wpIn_region_lit ?_
  refine st_box_agg hS rfl rfl rfl fun W a b0 hS => st_box_agg hS rfl rfl rfl fun W a b1 hS => st_alloc_agg Try.zeroValue34 hS rfl rfl fun W a b2 hS => st_alloc_agg Try.zeroValue34 hS rfl rfl fun W a b3 hS => st_v hS rfl rfl (run_assign hS rfl) fun a hS => wl_nil ?_
  refine wpIn_seq ?_
  refine wpIn_region_lit ?_
  refine st_v hS rfl rfl (run_load_all (i := 3) Try.isAgg27 Try.sizeOf27 hS rfl rfl rfl) fun a hS => st_v hS rfl rfl (run_load_all (i := 2) Try.isAgg36 Try.sizeOf36 hS rfl rfl rfl) fun a hS => st_call (ref02_CheckAir Vr r A (Hr _ hS.below)) Try.call24 hS rfl rfl rfl fun v W a hR hB hlt hS => ?_
  subst hR
  refine st_v hS rfl rfl (run_assign hS rfl) fun a hS => wl_nil ?_
  refine wpIn_seq ?_
  refine wpIn_seq ?_
  refine wpIn_region_lit ?_
  refine st_v hS rfl rfl (run_move hS rfl) fun a hS => st_v hS rfl rfl (run_bin hS rfl rfl rfl) fun a hS => wl_nil ?_
  refine st_cond hS rfl (fun hc1 => ?_) (fun hc1 => ?_)
  · skip
    try simp only [decide_eq_true_eq, decide_eq_false_iff_not, Bool.not_eq_true', Bool.not_eq_false', bne_iff_ne, beq_iff_eq, bne_eq_false_iff_eq, beq_eq_false_iff_ne, ne_eq, Int.not_le, Int.not_lt, ge_iff_le, gt_iff_lt] at hc1
    refine wpIn_seq ?_
    refine wpIn_region_lit ?_
    refine st_v hS rfl rfl (run_build (pv := []) (fun W => bd34_ W) hS rfl) fun a hS => st_v hS rfl rfl (run_build (pv := []) (fun W => bd34_ W) hS rfl) fun a hS => st_v hS rfl rfl (run_move hS rfl) fun a hS => st_store (i := 1) Try.sizeOf34 hS rfl rfl rfl rfl rfl rfl rfl rfl rfl fun W a hS => st_store (i := 0) Try.sizeOf34 hS rfl rfl rfl rfl rfl rfl rfl rfl rfl fun W a hS => st_v hS rfl rfl (run_assign hS rfl) fun a hS => wl_nil ?_
    refine wpIn_ret ?_
    repeat (first | refine q_ret ?_ | refine q_block_ret ?_)
    refine hS.done (res3 (fn := Try.f37) (r1 := .cell 8 34) (r2 := .cell 9 34) (r3 := .tmp 10) rfl (rv_agg (i := 1) Try.isAgg34 Try.sizeOf34 hS rfl rfl rfl) (rv_agg (i := 0) Try.isAgg34 Try.sizeOf34 hS rfl rfl rfl) (rv_tmp hS rfl)) ?_
    have hE : glideE r A n k = errC r A true := by unfold glideE; rw [errC_t hc1, if_neg hc1]
    exact t3s (p := ⟨0, 0⟩) (q := ⟨0, 0⟩) (by rw [glide1V, hE, if_neg hc1]) (by rw [glide2V, hE, if_neg hc1]) hE.symm
  · skip
    try simp only [decide_eq_true_eq, decide_eq_false_iff_not, Bool.not_eq_true', Bool.not_eq_false', bne_iff_ne, beq_iff_eq, bne_eq_false_iff_eq, beq_eq_false_iff_ne, ne_eq, Int.not_le, Int.not_lt, ge_iff_le, gt_iff_lt] at hc1
    obtain ⟨hrok, haok, _⟩ := errC_ok hc1
    obtain ⟨hA1, hA2, hA3, hA4⟩ := (airOk_iff A).1 haok
    have hRp := rot_p hrok
    refine wpIn_skip ?_
    refine wpIn_seq ?_
    refine wpIn_seq ?_
    refine st_draw (by kernel_rfl) (by kernel_rfl) hS ?_
    refine qt_v hS rfl rfl (fun W hB hS => run_fieldAddr fa27_7 hS rfl) fun a hS => qt_v hS rfl rfl (fun W hB hS => run_load_agg (i := 3) (vs := [_, _, _]) Try.isAgg25 Try.sizeOf25 hS rfl rfl rfl ⟨rfl, rfl, rfl, trivial⟩) fun a hS => qt_v hS rfl rfl (fun W hB hS => run_move hS rfl) fun a hS => qt_call hS rfl rfl Try.call94 rfl (fun W hB hS => ref02_at) fun a hS => qt_v hS rfl rfl (fun W hB hS => run_fieldAddr fa36_0 hS rfl) fun a hS => qt_v hS rfl rfl (fun W hB hS => run_load_agg (i := 2) (vs := [_, _]) Try.isAgg34 Try.sizeOf34 hS rfl rfl rfl ⟨rfl, rfl, trivial⟩) fun a hS => qt_call hS rfl rfl Try.call75 rfl (fun W hB hS => ref02_lies Vr.glide r.glide (one n) A.weight ((fun W hC => (Hr W hC).glide) _ hS.below) (by exact hRp.glide.1)) fun a hS => qt_v hS rfl rfl (fun W hB hS => run_not hS rfl) fun a hS => qt_v hS rfl rfl (fun W hB hS => run_move hS rfl) fun a hS => ?_
    refine st_split (d := 31) hS rfl (fun hc2 hS => ?_) (fun hc2 hS => ?_)
    · skip
      try simp only [decide_eq_true_eq, decide_eq_false_iff_not, Bool.not_eq_true', Bool.not_eq_false', bne_iff_ne, beq_iff_eq, bne_eq_false_iff_eq, beq_eq_false_iff_ne, ne_eq, Int.not_le, Int.not_lt, ge_iff_le, gt_iff_lt] at hc2
      refine qt_skip hS (hS.unwanted rfl rfl rfl rfl) rfl fun a hS => qt_skip hS (hS.unwanted rfl rfl rfl rfl) rfl fun a hS => qt_skip hS (hS.unwanted rfl rfl rfl rfl) rfl fun a hS => qt_v hS rfl rfl (fun W hB hS => run_pick_t hS rfl rfl) fun a hS => qt_v hS rfl rfl (fun W hB hS => run_move hS rfl) fun a hS => qt_skip hS (hS.unwanted rfl rfl rfl rfl) rfl fun a hS => qt_skip hS (hS.unwanted rfl rfl rfl rfl) rfl fun a hS => qt_skip hS (hS.unwanted rfl rfl rfl rfl) rfl fun a hS => qt_v hS rfl rfl (fun W hB hS => run_pick_t hS rfl rfl) fun a hS => qt_nil hS fun W hS => ?_
      refine st_cond_t hS rfl ?_
      refine wpIn_seq ?_
      refine wpIn_region_lit ?_
      refine st_v hS rfl rfl (run_build (pv := []) (fun W => bd34_ W) hS rfl) fun a hS => st_v hS rfl rfl (run_build (pv := []) (fun W => bd34_ W) hS rfl) fun a hS => st_store (i := 1) Try.sizeOf34 hS rfl rfl rfl rfl rfl rfl rfl rfl rfl fun W a hS => st_store (i := 0) Try.sizeOf34 hS rfl rfl rfl rfl rfl rfl rfl rfl rfl fun W a hS => st_v hS rfl rfl (run_assign hS rfl) fun a hS => wl_nil ?_
      have hS := hS.sub (κ' := [(0, _), (1, _), (2, _), (3, _), (4, _), (5, _), (8, _), (9, _), (10, _), (11, _)]) (Sub.cons rfl (Sub.cons rfl (Sub.cons rfl (Sub.cons rfl (Sub.cons rfl (Sub.cons rfl (Sub.cons rfl (Sub.cons rfl (Sub.cons rfl (Sub.cons rfl Sub.nil))))))))))
      refine wpIn_ret ?_
      repeat (first | refine q_ret ?_ | refine q_block_ret ?_)
      refine hS.done (res3 (fn := Try.f37) (r1 := .cell 8 34) (r2 := .cell 9 34) (r3 := .tmp 10) rfl (rv_agg (i := 1) Try.isAgg34 Try.sizeOf34 hS rfl rfl rfl) (rv_agg (i := 0) Try.isAgg34 Try.sizeOf34 hS rfl rfl rfl) (rv_tmp hS rfl)) ?_
      have hf : onGlide r A n k = false := by
        cases hL : liesT r.glide (one n) A.weight with
        | false => simp [onGlide, hL]
        | true =>
          have h1 := one_lies hRp.glide.1 hL
          simp [onGlide, h1, hA1, hL] at hc2 ⊢
          try simp [hc1, hc2]
      have hE : glideE r A n k = 1 := by unfold glideE; rw [errC_tf hrok haok hf]; rfl
      exact t3s (p := ⟨0, 0⟩) (q := ⟨0, 0⟩) (by rw [glide1V, hE]; rfl) (by rw [glide2V, hE]; rfl) hE.symm
    · skip
      try simp only [decide_eq_true_eq, decide_eq_false_iff_not, Bool.not_eq_true', Bool.not_eq_false', bne_iff_ne, beq_iff_eq, bne_eq_false_iff_eq, beq_eq_false_iff_ne, ne_eq, Int.not_le, Int.not_lt, ge_iff_le, gt_iff_lt] at hc2
      
      refine qt_v hS (hS.wanted rfl rfl rfl) rfl (fun W hB hS => run_move hS rfl) fun a hS => qt_call hS (hS.wanted rfl rfl rfl) rfl Try.call62 rfl (fun W hB hS => ref02_from) fun a hS => qt_v hS (hS.wanted rfl rfl rfl) rfl (fun W hB hS => run_not hS rfl) fun a hS => qt_v hS rfl rfl (fun W hB hS => run_pick_f hS rfl rfl) fun a hS => qt_v hS rfl rfl (fun W hB hS => run_move hS rfl) fun a hS => ?_
      refine st_split (d := 36) hS rfl (fun hc3 hS => ?_) (fun hc3 hS => ?_)
      · skip
        try simp only [decide_eq_true_eq, decide_eq_false_iff_not, Bool.not_eq_true', Bool.not_eq_false', bne_iff_ne, beq_iff_eq, bne_eq_false_iff_eq, beq_eq_false_iff_ne, ne_eq, Int.not_le, Int.not_lt, ge_iff_le, gt_iff_lt] at hc3
        refine qt_skip hS (hS.unwanted rfl rfl rfl rfl) rfl fun a hS => qt_skip hS (hS.unwanted rfl rfl rfl rfl) rfl fun a hS => qt_skip hS (hS.unwanted rfl rfl rfl rfl) rfl fun a hS => qt_v hS rfl rfl (fun W hB hS => run_pick_t hS rfl rfl) fun a hS => qt_nil hS fun W hS => ?_
        refine st_cond_t hS rfl ?_
        refine wpIn_seq ?_
        refine wpIn_region_lit ?_
        refine st_v hS rfl rfl (run_build (pv := []) (fun W => bd34_ W) hS rfl) fun a hS => st_v hS rfl rfl (run_build (pv := []) (fun W => bd34_ W) hS rfl) fun a hS => st_store (i := 1) Try.sizeOf34 hS rfl rfl rfl rfl rfl rfl rfl rfl rfl fun W a hS => st_store (i := 0) Try.sizeOf34 hS rfl rfl rfl rfl rfl rfl rfl rfl rfl fun W a hS => st_v hS rfl rfl (run_assign hS rfl) fun a hS => wl_nil ?_
        have hS := hS.sub (κ' := [(0, _), (1, _), (2, _), (3, _), (4, _), (5, _), (8, _), (9, _), (10, _), (11, _)]) (Sub.cons rfl (Sub.cons rfl (Sub.cons rfl (Sub.cons rfl (Sub.cons rfl (Sub.cons rfl (Sub.cons rfl (Sub.cons rfl (Sub.cons rfl (Sub.cons rfl Sub.nil))))))))))
        refine wpIn_ret ?_
        repeat (first | refine q_ret ?_ | refine q_block_ret ?_)
        refine hS.done (res3 (fn := Try.f37) (r1 := .cell 8 34) (r2 := .cell 9 34) (r3 := .tmp 10) rfl (rv_agg (i := 1) Try.isAgg34 Try.sizeOf34 hS rfl rfl rfl) (rv_agg (i := 0) Try.isAgg34 Try.sizeOf34 hS rfl rfl rfl) (rv_tmp hS rfl)) ?_
        have hf : onGlide r A n k = false := by
          cases hL : liesT r.glide (one n) A.weight with
          | false => simp [onGlide, hL]
          | true =>
            have h1 := one_lies hRp.glide.1 hL
            simp [onGlide, h1, hA1, hL] at hc2 ⊢
            try simp [hc1, hc2, hc3]
        have hE : glideE r A n k = 1 := by unfold glideE; rw [errC_tf hrok haok hf]; rfl
        exact t3s (p := ⟨0, 0⟩) (q := ⟨0, 0⟩) (by rw [glide1V, hE]; rfl) (by rw [glide2V, hE]; rfl) hE.symm
      · skip
        try simp only [decide_eq_true_eq, decide_eq_false_iff_not, Bool.not_eq_true', Bool.not_eq_false', bne_iff_ne, beq_iff_eq, bne_eq_false_iff_eq, beq_eq_false_iff_ne, ne_eq, Int.not_le, Int.not_lt, ge_iff_le, gt_iff_lt] at hc3
        
        refine qt_v hS (hS.wanted rfl rfl rfl) rfl (fun W hB hS => run_move hS rfl) fun a hS => qt_call hS (hS.wanted rfl rfl rfl) rfl Try.call62 rfl (fun W hB hS => ref02_from) fun a hS => qt_v hS (hS.wanted rfl rfl rfl) rfl (fun W hB hS => run_not hS rfl) fun a hS => qt_v hS rfl rfl (fun W hB hS => run_pick_f hS rfl rfl) fun a hS => qt_nil hS fun W hS => ?_
        refine st_cond hS rfl (fun hc4 => ?_) (fun hc4 => ?_)
        · skip
          try simp only [decide_eq_true_eq, decide_eq_false_iff_not, Bool.not_eq_true', Bool.not_eq_false', bne_iff_ne, beq_iff_eq, bne_eq_false_iff_eq, beq_eq_false_iff_ne, ne_eq, Int.not_le, Int.not_lt, ge_iff_le, gt_iff_lt] at hc4
          refine wpIn_seq ?_
          refine wpIn_region_lit ?_
          refine st_v hS rfl rfl (run_build (pv := []) (fun W => bd34_ W) hS rfl) fun a hS => st_v hS rfl rfl (run_build (pv := []) (fun W => bd34_ W) hS rfl) fun a hS => st_store (i := 1) Try.sizeOf34 hS rfl rfl rfl rfl rfl rfl rfl rfl rfl fun W a hS => st_store (i := 0) Try.sizeOf34 hS rfl rfl rfl rfl rfl rfl rfl rfl rfl fun W a hS => st_v hS rfl rfl (run_assign hS rfl) fun a hS => wl_nil ?_
          have hS := hS.sub (κ' := [(0, _), (1, _), (2, _), (3, _), (4, _), (5, _), (8, _), (9, _), (10, _), (11, _)]) (Sub.cons rfl (Sub.cons rfl (Sub.cons rfl (Sub.cons rfl (Sub.cons rfl (Sub.cons rfl (Sub.cons rfl (Sub.cons rfl (Sub.cons rfl (Sub.cons rfl Sub.nil))))))))))
          refine wpIn_ret ?_
          repeat (first | refine q_ret ?_ | refine q_block_ret ?_)
          refine hS.done (res3 (fn := Try.f37) (r1 := .cell 8 34) (r2 := .cell 9 34) (r3 := .tmp 10) rfl (rv_agg (i := 1) Try.isAgg34 Try.sizeOf34 hS rfl rfl rfl) (rv_agg (i := 0) Try.isAgg34 Try.sizeOf34 hS rfl rfl rfl) (rv_tmp hS rfl)) ?_
          have hf : onGlide r A n k = false := by
            cases hL : liesT r.glide (one n) A.weight with
            | false => simp [onGlide, hL]
            | true =>
              have h1 := one_lies hRp.glide.1 hL
              simp [onGlide, h1, hA1, hL] at hc2 ⊢
              try simp [hc1, hc2, hc3, hc4]
          have hE : glideE r A n k = 1 := by unfold glideE; rw [errC_tf hrok haok hf]; rfl
          exact t3s (p := ⟨0, 0⟩) (q := ⟨0, 0⟩) (by rw [glide1V, hE]; rfl) (by rw [glide2V, hE]; rfl) hE.symm
        · skip
          try simp only [decide_eq_true_eq, decide_eq_false_iff_not, Bool.not_eq_true', Bool.not_eq_false', bne_iff_ne, beq_iff_eq, bne_eq_false_iff_eq, beq_eq_false_iff_ne, ne_eq, Int.not_le, Int.not_lt, ge_iff_le, gt_iff_lt] at hc4
          have hlg : liesT r.glide (one n) A.weight = true := by simp at hc2; exact hc2.2
          have h1ok := one_lies hRp.glide.1 hlg
          have hg := glide_in hrok haok h1ok hlg
          have hin : (0 ≤ n ∧ n ≤ 1000000) ∧ (0 ≤ k ∧ k ≤ 1000000) := by
            simp only [within, Bool.and_eq_true, decide_eq_true_eq] at *; omega
          have hpr := prod_in hin.1.1 hin.1.2 hin.2.1 hin.2.2
          have hon : onGlide r A n k = true := by simp [onGlide, within, hlg, hin]
          have hE0 : errC r A (onGlide r A n k) = 0 := errC_of hrok haok hon
          refine wpIn_skip ?_
          refine wpIn_seq ?_
          have hlt0 := fun B hB => hS.lt (b := B) hB
          refine st_mix (k := 8) (by kernel_rfl) (by kernel_rfl) hS rfl rfl ?_
          refine mx_v (fun a W hS hB => run_fieldAddr fa27_7 hS rfl) <| mx_v (fun a W hS hB => run_load_agg (i := 3) (vs := [_, _, _]) Try.isAgg25 Try.sizeOf25 hS rfl rfl rfl ⟨rfl, rfl, rfl, trivial⟩) <| mx_v (fun a W hS hB => run_move hS rfl) <| mx_call Try.call94 rfl (fun a W hS hB => ref02_at) <| mx_v (fun a W hS hB => run_fieldAddr fa36_0 hS rfl) <| mx_v (fun a W hS hB => run_load_agg (i := 2) (vs := [_, _]) Try.isAgg34 Try.sizeOf34 hS rfl rfl rfl ⟨rfl, rfl, trivial⟩) <| mx_call Try.call85 rfl (fun a W hS hB => ref02_bound Vr.glide r.glide (one n) A.weight ((fun W hC => (Hr W hC).glide) _ hS.below) (by exact hRp.glide.1) (by exact h1ok) (by exact hA1) (by exact hlg)) <| mx_alloc_agg Try.zeroValue34 <| ?_
          refine mx_end fun a W bs us hS hB hL => ?_
          dsimp only [kall, ball, List.cons_append, List.nil_append] at hS
          generalize bs 0 = b4 at hS
          refine st_store (i := 0) Try.sizeOf34 hS rfl rfl rfl rfl rfl rfl rfl rfl rfl fun W a hS => wl_nil ?_
          have hS := hS.sub (κ' := [(0, _), (1, _), (2, _), (3, _), (4, _), (5, _), (8, _), (9, _), (10, _), (11, _), (12, _)]) (Sub.cons rfl (Sub.cons rfl (Sub.cons rfl (Sub.cons rfl (Sub.cons rfl (Sub.cons rfl (Sub.cons rfl (Sub.cons rfl (Sub.cons rfl (Sub.cons rfl (Sub.cons rfl Sub.nil)))))))))))
          refine wpIn_seq ?_
          have hlt0 := fun B hB => hS.lt (b := B) hB
          refine st_mix (k := 10) (by kernel_rfl) (by kernel_rfl) hS rfl rfl ?_
          refine mx_v (fun a W hS hB => run_move hS rfl) <| mx_v (fun a W hS hB => run_fieldAddr fa34_1 hS rfl) <| mx_v (fun a W hS hB => run_load_one (i := 0) Try.isAgg3 hS rfl rfl rfl) <| mx_v (fun a W hS hB => run_div (t := (k / (bnd r.glide (one n) A.weight).hi)) hS rfl rfl (by omega) (by exact Int.tdiv_eq_ediv_of_nonneg (by omega)) (by have := Int.ediv_le_self (a := k) (bnd r.glide (one n) A.weight).hi (by omega); have := Int.ediv_nonneg (a := k) (b := (bnd r.glide (one n) A.weight).hi) (by omega) (by omega); omega)) <| mx_v (fun a W hS hB => run_move hS rfl) <| mx_v (fun a W hS hB => run_fieldAddr fa34_0 hS rfl) <| mx_v (fun a W hS hB => run_load_one (i := 0) Try.isAgg3 hS rfl rfl rfl) <| mx_call Try.call95 rfl (fun a W hS hB => ref02_up (by omega) (by omega)) <| mx_v (fun a W hS hB => run_build (pv := [(0, .int .i64 _), (1, .int .i64 _)]) (fun W => bd34_0_1 _ _ W) hS rfl) <| mx_alloc_agg Try.zeroValue34 <| ?_
          refine mx_end fun a W bs us hS hB hL => ?_
          dsimp only [kall, ball, List.cons_append, List.nil_append] at hS
          generalize bs 0 = b5 at hS
          refine st_store (i := 0) Try.sizeOf34 hS rfl rfl rfl rfl rfl rfl rfl rfl rfl fun W a hS => wl_nil ?_
          refine wpIn_seq ?_
          have hlt0 := fun B hB => hS.lt (b := B) hB
          refine st_mix (k := 14) (by kernel_rfl) (by kernel_rfl) hS rfl rfl ?_
          refine mx_v (fun a W hS hB => run_move hS rfl) <| mx_v (fun a W hS hB => run_move hS rfl) <| mx_v (fun a W hS hB => run_mul (t := (n * k)) hS rfl rfl (by rfl) (by omega)) <| mx_v (fun a W hS hB => run_fieldAddr fa34_1 hS rfl) <| mx_v (fun a W hS hB => run_load_one (i := 1) Try.isAgg3 hS rfl rfl rfl) <| mx_v (fun a W hS hB => run_div (t := (n * k / (bnd r.glide (one n) A.weight).hi)) hS rfl rfl (by omega) (by exact Int.tdiv_eq_ediv_of_nonneg (by omega)) (by have := Int.ediv_le_self (a := n * k) (bnd r.glide (one n) A.weight).hi (by omega); have := Int.ediv_nonneg (a := n * k) (b := (bnd r.glide (one n) A.weight).hi) (by omega) (by omega); omega)) <| mx_v (fun a W hS hB => run_move hS rfl) <| mx_v (fun a W hS hB => run_move hS rfl) <| mx_v (fun a W hS hB => run_mul (t := (n * k)) hS rfl rfl (by rfl) (by omega)) <| mx_v (fun a W hS hB => run_fieldAddr fa34_0 hS rfl) <| mx_v (fun a W hS hB => run_load_one (i := 1) Try.isAgg3 hS rfl rfl rfl) <| mx_call Try.call95 rfl (fun a W hS hB => ref02_up (by omega) (by omega)) <| mx_v (fun a W hS hB => run_build (pv := [(0, .int .i64 _), (1, .int .i64 _)]) (fun W => bd34_0_1 _ _ W) hS rfl) <| mx_alloc_agg Try.zeroValue34 <| ?_
          refine mx_end fun a W bs us hS hB hL => ?_
          dsimp only [kall, ball, List.cons_append, List.nil_append] at hS
          generalize bs 0 = b6 at hS
          refine st_store (i := 0) Try.sizeOf34 hS rfl rfl rfl rfl rfl rfl rfl rfl rfl fun W a hS => wl_nil ?_
          refine wpIn_seq ?_
          refine wpIn_seq ?_
          refine wpIn_region_lit ?_
          refine st_v hS rfl rfl (run_load_all (i := 1) Try.isAgg34 Try.sizeOf34 hS rfl rfl rfl) fun a hS => st_call (ref01_Valid (⟨(k / (bnd r.glide (one n) A.weight).hi), ((k + (((bnd r.glide (one n) A.weight)).lo) - 1) / (((bnd r.glide (one n) A.weight)).lo))⟩ : Span)) Try.call25 hS rfl rfl rfl fun v W a hR hB hlt hS => ?_
          subst hR
          refine st_v hS rfl rfl (run_not hS rfl) fun a hS => st_v hS rfl rfl (run_move hS rfl) fun a hS => ?_
          refine st_split (d := 75) hS rfl (fun hc5 hS => ?_) (fun hc5 hS => ?_)
          · skip
            try simp only [decide_eq_true_eq, decide_eq_false_iff_not, Bool.not_eq_true', Bool.not_eq_false', bne_iff_ne, beq_iff_eq, bne_eq_false_iff_eq, beq_eq_false_iff_ne, ne_eq, Int.not_le, Int.not_lt, ge_iff_le, gt_iff_lt] at hc5
            refine st_skip hS (hS.unwanted rfl rfl rfl rfl) rfl fun a hS => st_skip hS (hS.unwanted rfl rfl rfl rfl) rfl fun a hS => st_skip hS (hS.unwanted rfl rfl rfl rfl) rfl fun a hS => st_v hS rfl rfl (run_pick_t hS rfl rfl) fun a hS => wl_nil ?_
            have hS := hS.sub (κ' := [(0, _), (1, _), (2, _), (3, _), (4, _), (5, _), (8, _), (9, _), (10, _), (11, _), (12, _), (13, _), (14, _), (79, _)]) (Sub.cons rfl (Sub.cons rfl (Sub.cons rfl (Sub.cons rfl (Sub.cons rfl (Sub.cons rfl (Sub.cons rfl (Sub.cons rfl (Sub.cons rfl (Sub.cons rfl (Sub.cons rfl (Sub.cons rfl (Sub.cons rfl (Sub.cons rfl Sub.nil))))))))))))))
            refine st_cond_t hS rfl ?_
            refine wpIn_seq ?_
            refine wpIn_region_lit ?_
            refine st_v hS rfl rfl (run_build (pv := []) (fun W => bd34_ W) hS rfl) fun a hS => st_v hS rfl rfl (run_build (pv := []) (fun W => bd34_ W) hS rfl) fun a hS => st_store (i := 4) Try.sizeOf34 hS rfl rfl rfl rfl rfl rfl rfl rfl rfl fun W a hS => st_store (i := 3) Try.sizeOf34 hS rfl rfl rfl rfl rfl rfl rfl rfl rfl fun W a hS => st_v hS rfl rfl (run_assign hS rfl) fun a hS => wl_nil ?_
            refine wpIn_ret ?_
            repeat (first | refine q_ret ?_ | refine q_block_ret ?_)
            refine hS.done (res3 (fn := Try.f37) (r1 := .cell 8 34) (r2 := .cell 9 34) (r3 := .tmp 10) rfl (rv_agg (i := 4) Try.isAgg34 Try.sizeOf34 hS rfl rfl rfl) (rv_agg (i := 3) Try.isAgg34 Try.sizeOf34 hS rfl rfl rfl) (rv_tmp hS rfl)) ?_
            have hE : glideE r A n k = 2 := by unfold glideE; rw [if_pos hE0, if_neg (by simp [glideBy, hc1, hc2, hc3, hc4, hc5])]
            exact t3s (p := ⟨0, 0⟩) (q := ⟨0, 0⟩) (by rw [glide1V, hE]; rfl) (by rw [glide2V, hE]; rfl) hE.symm
          · skip
            try simp only [decide_eq_true_eq, decide_eq_false_iff_not, Bool.not_eq_true', Bool.not_eq_false', bne_iff_ne, beq_iff_eq, bne_eq_false_iff_eq, beq_eq_false_iff_ne, ne_eq, Int.not_le, Int.not_lt, ge_iff_le, gt_iff_lt] at hc5
            
            refine st_v hS (hS.wanted rfl rfl rfl) rfl (run_load_all (i := 0) Try.isAgg34 Try.sizeOf34 hS rfl rfl rfl) fun a hS => st_call (ref01_Valid (⟨(n * k / (bnd r.glide (one n) A.weight).hi), (((n * k) + (((bnd r.glide (one n) A.weight)).lo) - 1) / (((bnd r.glide (one n) A.weight)).lo))⟩ : Span)) Try.call25 hS (hS.wanted rfl rfl rfl) rfl rfl fun v W a hR hB hlt hS => ?_
            subst hR
            refine st_v hS (hS.wanted rfl rfl rfl) rfl (run_not hS rfl) fun a hS => st_v hS rfl rfl (run_pick_f hS rfl rfl) fun a hS => wl_nil ?_
            have hS := hS.sub (κ' := [(0, _), (1, _), (2, _), (3, _), (4, _), (5, _), (8, _), (9, _), (10, _), (11, _), (12, _), (13, _), (14, _), (79, _)]) (Sub.cons rfl (Sub.cons rfl (Sub.cons rfl (Sub.cons rfl (Sub.cons rfl (Sub.cons rfl (Sub.cons rfl (Sub.cons rfl (Sub.cons rfl (Sub.cons rfl (Sub.cons rfl (Sub.cons rfl (Sub.cons rfl (Sub.cons rfl Sub.nil))))))))))))))
            refine st_cond hS rfl (fun hc6 => ?_) (fun hc6 => ?_)
            · skip
              try simp only [decide_eq_true_eq, decide_eq_false_iff_not, Bool.not_eq_true', Bool.not_eq_false', bne_iff_ne, beq_iff_eq, bne_eq_false_iff_eq, beq_eq_false_iff_ne, ne_eq, Int.not_le, Int.not_lt, ge_iff_le, gt_iff_lt] at hc6
              refine wpIn_seq ?_
              refine wpIn_region_lit ?_
              refine st_v hS rfl rfl (run_build (pv := []) (fun W => bd34_ W) hS rfl) fun a hS => st_v hS rfl rfl (run_build (pv := []) (fun W => bd34_ W) hS rfl) fun a hS => st_store (i := 4) Try.sizeOf34 hS rfl rfl rfl rfl rfl rfl rfl rfl rfl fun W a hS => st_store (i := 3) Try.sizeOf34 hS rfl rfl rfl rfl rfl rfl rfl rfl rfl fun W a hS => st_v hS rfl rfl (run_assign hS rfl) fun a hS => wl_nil ?_
              refine wpIn_ret ?_
              repeat (first | refine q_ret ?_ | refine q_block_ret ?_)
              refine hS.done (res3 (fn := Try.f37) (r1 := .cell 8 34) (r2 := .cell 9 34) (r3 := .tmp 10) rfl (rv_agg (i := 4) Try.isAgg34 Try.sizeOf34 hS rfl rfl rfl) (rv_agg (i := 3) Try.isAgg34 Try.sizeOf34 hS rfl rfl rfl) (rv_tmp hS rfl)) ?_
              have hE : glideE r A n k = 2 := by unfold glideE; rw [if_pos hE0, if_neg (by simp [glideBy, hc1, hc2, hc3, hc4, hc5, hc6])]
              exact t3s (p := ⟨0, 0⟩) (q := ⟨0, 0⟩) (by rw [glide1V, hE]; rfl) (by rw [glide2V, hE]; rfl) hE.symm
            · skip
              try simp only [decide_eq_true_eq, decide_eq_false_iff_not, Bool.not_eq_true', Bool.not_eq_false', bne_iff_ne, beq_iff_eq, bne_eq_false_iff_eq, beq_eq_false_iff_ne, ne_eq, Int.not_le, Int.not_lt, ge_iff_le, gt_iff_lt] at hc6
              
              refine wpIn_skip ?_
              refine wpIn_seq ?_
              have hS := hS.sub (κ' := [(0, _), (1, _), (2, _), (3, _), (4, _), (5, _), (8, _), (9, _), (10, _), (11, _), (12, _), (13, _), (14, _)]) (Sub.cons rfl (Sub.cons rfl (Sub.cons rfl (Sub.cons rfl (Sub.cons rfl (Sub.cons rfl (Sub.cons rfl (Sub.cons rfl (Sub.cons rfl (Sub.cons rfl (Sub.cons rfl (Sub.cons rfl (Sub.cons rfl Sub.nil)))))))))))))
              refine st_cutB [(4, spanC (glideBy r A n k)), (3, spanC (glideBy r A n (n * k)))] hS ?_ (fun W a hS => ?_)
              · skip
                refine anyh_start (by kernel_rfl) [true, true, true, false, false, true, true] hS fun W hS => ?_
                refine anyh_take (i := 0) [true, true, true, false, false, true, true] hS (fun _ h => h) rfl rfl (by kernel_rfl) (by kernel_rfl) (by kernel_rfl) rfl rfl (fun W' hS => run_load_all (i := 1) Try.isAgg34 Try.sizeOf34 hS rfl rfl rfl) fun a hS => ?_
                refine anyh_take (i := 1) [true, true, true, false, false, true, true] hS (fun _ h => h) rfl rfl (by kernel_rfl) (by kernel_rfl) (by kernel_rfl) rfl rfl (fun W' hS => run_load_all (i := 0) Try.isAgg34 Try.sizeOf34 hS rfl rfl rfl) fun a hS => ?_
                refine anyh_go (rs := [2]) (by kernel_rfl) (by simp) ⟨⟨_, rfl, ?_⟩, trivial⟩
                refine st_store (i := 4) Try.sizeOf34 hS rfl rfl rfl rfl rfl rfl rfl rfl rfl fun W a hS => wl_nil ?_
                refine anyh_next [true, true, true, false, false, true, true] hS (fun _ h => h) rfl ?_
                refine anyh_go (rs := [3]) (by kernel_rfl) (by simp) ⟨⟨_, rfl, ?_⟩, trivial⟩
                refine st_store (i := 3) Try.sizeOf34 hS rfl rfl rfl rfl rfl rfl rfl rfl rfl fun W a hS => wl_nil ?_
                refine anyh_next [true, true, true, false, false, true, true] hS (fun _ h => h) rfl ?_
                refine anyh_take (i := 4) [true, true, true, false, false, true, true] hS (fun _ h => h) rfl rfl (by kernel_rfl) (by kernel_rfl) (by kernel_rfl) rfl rfl (fun W' hS => run_assign hS rfl) fun a hS => ?_
                refine anyh_done (by kernel_rfl) ?_ _
                exact cut_end (hS.sub (Sub.cons rfl (Sub.cons rfl (Sub.cons rfl (Sub.cons rfl (Sub.cons rfl (Sub.cons rfl (Sub.cons rfl (Sub.cons rfl (Sub.cons rfl (Sub.cons rfl (Sub.cons rfl (Sub.cons rfl (Sub.cons rfl Sub.nil))))))))))))))
              · skip
                dsimp only [setB, List.foldl] at hS
                refine wpIn_ret ?_
                repeat (first | refine q_ret ?_ | refine q_block_ret ?_)
                refine hS.done (res3 (fn := Try.f37) (r1 := .cell 8 34) (r2 := .cell 9 34) (r3 := .tmp 10) rfl (rv_agg (i := 4) Try.isAgg34 Try.sizeOf34 hS rfl rfl rfl) (rv_agg (i := 3) Try.isAgg34 Try.sizeOf34 hS rfl rfl rfl) (rv_tmp hS rfl)) ?_
                have hE : glideE r A n k = 0 := by unfold glideE; rw [if_pos hE0, if_pos (by simp [glideBy, hc1, hc2, hc3, hc4, hc5, hc6])]
                exact t3s (p := glideBy r A n k) (q := glideBy r A n (n * k)) (by rw [glide1V, if_pos hE]) (by rw [glide2V, if_pos hE]) hE.symm


set_option maxHeartbeats 8000000 in
set_option maxRecDepth 100000 in
theorem law_RotorGlides (n : Nat → Int) (Vr : RV) (r : Rot) (A : Air) {w : World} {Fr : Nat → Prop} (hr : RotR Fr w Vr r)  : Ret Try.prog 8 [.agg (rotC Vr r).toArray, .agg (airC A).toArray, .agg #[.int .i64 (n 0), .int .i64 (n 1), .int .i64 (n 2)]] w (fun v _ => v = .bool true) := by
  refine ret_start (n := 111) Try.func8 rfl rfl rfl (fun a hS => ?_)
  have Hr : ∀ W, Below w.heap.size w W → RotR Fr W Vr r := fun W hb => hr.move (keep_of hb)
  refine wpIn_seq ?_
  refine wpIn_region_lit ?_
  refine st_box_agg hS rfl rfl rfl fun W a b0 hS => st_box_agg hS rfl rfl rfl fun W a b1 hS => st_box_agg hS rfl rfl rfl fun W a b2 hS => st_v hS rfl rfl (run_assign hS rfl) fun a hS => wl_nil ?_
  refine wpIn_seq ?_
  refine wpIn_seq ?_
  refine wpIn_region_lit ?_
  refine st_v hS rfl rfl (run_load_all (i := 2) Try.isAgg27 Try.sizeOf27 hS rfl rfl rfl) fun a hS => st_call (law02_Far Vr r (Hr _ hS.below)) Try.call15 hS rfl rfl rfl fun v W a hR hB hlt hS => ?_
  subst hR
  refine wl_nil ?_
  refine st_cond hS rfl (fun hc1 => ?_) (fun hc1 => ?_)
  · skip
    try simp only [decide_eq_true_eq, decide_eq_false_iff_not, Bool.not_eq_true', Bool.not_eq_false', bne_iff_ne, beq_iff_eq, bne_eq_false_iff_eq, beq_eq_false_iff_ne, ne_eq, Int.not_le, Int.not_lt, ge_iff_le, gt_iff_lt] at hc1
    refine wpIn_seq ?_
    refine wpIn_region_lit ?_
    refine st_call (law02_works) Try.call16 hS rfl rfl rfl fun v W a hR hB hlt hS => ?_
    subst hR
    refine st_v hS rfl rfl (run_assign hS rfl) fun a hS => wl_nil ?_
    refine wpIn_ret ?_
    repeat (first | refine q_ret ?_ | refine q_block_ret ?_)
    refine hS.done (res1 (fn := Try.f8) (r1 := .tmp 6) rfl (rv_tmp hS rfl)) ?_
    rfl
  · skip
    try simp only [decide_eq_true_eq, decide_eq_false_iff_not, Bool.not_eq_true', Bool.not_eq_false', bne_iff_ne, beq_iff_eq, bne_eq_false_iff_eq, beq_eq_false_iff_ne, ne_eq, Int.not_le, Int.not_lt, ge_iff_le, gt_iff_lt] at hc1
    
    refine wpIn_skip ?_
    refine wpIn_seq ?_
    refine wpIn_region_lit ?_
    refine st_v hS rfl rfl (run_load_all (i := 2) Try.isAgg27 Try.sizeOf27 hS rfl rfl rfl) fun a hS => ?_
    have hw0 := hS.below.size
    refine st_call (law02_own Vr r (Hr _ hS.below) (by exact farR_not hc1)) Try.call18 hS rfl rfl rfl fun v W a hR hB hlt hS => ?_
    
    obtain ⟨V0, rfl, hV0⟩ := hR
    have hS := hS.moreRot hw0 hlt hV0
    refine st_alloc_agg Try.zeroValue27 hS rfl rfl fun W a b3 hS => st_store (cs' := [.slice V0.hover.x.a r.hover.X.length V0.hover.x.c, .slice V0.hover.y.a r.hover.Y.length V0.hover.y.c, .slice V0.hover.v.a r.hover.V.length V0.hover.v.c, .slice V0.ground.x.a r.ground.X.length V0.ground.x.c, .slice V0.ground.y.a r.ground.Y.length V0.ground.y.c, .slice V0.ground.v.a r.ground.V.length V0.ground.v.c, .slice V0.level.x.a r.level.X.length V0.level.x.c, .slice V0.level.y.a r.level.Y.length V0.level.y.c, .slice V0.level.v.a r.level.V.length V0.level.v.c, .slice V0.power.x.a r.power.X.length V0.power.x.c, .slice V0.power.y.a r.power.Y.length V0.power.y.c, .slice V0.power.v.a r.power.V.length V0.power.v.c, .slice V0.never.x.a r.never.X.length V0.never.x.c, .slice V0.never.y.a r.never.Y.length V0.never.y.c, .slice V0.never.v.a r.never.V.length V0.never.v.c, .slice V0.low.x.a r.low.X.length V0.low.x.c, .slice V0.low.y.a r.low.Y.length V0.low.y.c, .slice V0.low.v.a r.low.V.length V0.low.v.c, .slice V0.high.x.a r.high.X.length V0.high.x.c, .slice V0.high.y.a r.high.Y.length V0.high.y.c, .slice V0.high.v.a r.high.V.length V0.high.v.c, .slice V0.glide.x.a r.glide.X.length V0.glide.x.c, .slice V0.glide.y.a r.glide.Y.length V0.glide.y.c, .slice V0.glide.v.a r.glide.V.length V0.glide.v.c, .int .i64 r.climb, .int .i64 r.burn]) (i := 0) Try.sizeOf27 hS rfl rfl rfl rfl rfl rfl rfl rfl rfl fun W a hS => wl_nil ?_
    refine wpIn_seq ?_
    refine wpIn_region_lit ?_
    refine st_v hS rfl rfl (run_load_all (i := 0) Try.isAgg27 Try.sizeOf27 hS rfl rfl rfl) fun a hS => st_v hS rfl rfl (run_load_all (i := 2) Try.isAgg36 Try.sizeOf36 hS rfl rfl rfl) fun a hS => st_v hS rfl rfl (run_idxArr (fun W => ia62_0 _ _ W) hS rfl rfl) fun a hS => st_v hS rfl rfl (run_load_one (i := 1) Try.isAgg3 hS rfl rfl rfl) fun a hS => st_v hS rfl rfl (run_idxArr (fun W => ia62_1 _ _ W) hS rfl rfl) fun a hS => st_v hS rfl rfl (run_load_one (i := 1) Try.isAgg3 hS rfl rfl rfl) fun a hS => st_call (rotor_Glide V0 r A ((fun _ h => h) _ hS.now.2)) Try.call36 hS rfl rfl rfl fun v W a hR hB hlt hS => ?_
    subst hR
    refine st_v hS rfl rfl (run_move hS rfl) fun a hS => st_v hS rfl rfl (run_extract hS rfl rfl) fun a hS => st_v hS rfl rfl (run_extract hS rfl rfl) fun a hS => st_v hS rfl rfl (run_extract hS rfl rfl) fun a hS => st_alloc_agg Try.zeroValue34 hS rfl rfl fun W a b4 hS => st_alloc_agg Try.zeroValue34 hS rfl rfl fun W a b5 hS => st_store (i := 1) Try.sizeOf34 hS rfl rfl rfl rfl rfl rfl rfl rfl rfl fun W a hS => st_store (i := 0) Try.sizeOf34 hS rfl rfl rfl rfl rfl rfl rfl rfl rfl fun W a hS => st_v hS rfl rfl (run_assign hS rfl) fun a hS => wl_nil ?_
    refine wpIn_seq ?_
    refine wpIn_region_lit ?_
    refine st_v hS rfl rfl (run_load_all (i := 5) Try.isAgg27 Try.sizeOf27 hS rfl rfl rfl) fun a hS => st_v hS rfl rfl (run_load_all (i := 4) Try.isAgg36 Try.sizeOf36 hS rfl rfl rfl) fun a hS => st_v hS rfl rfl (run_idxArr (fun W => ia62_0 _ _ W) hS rfl rfl) fun a hS => st_v hS rfl rfl (run_load_one (i := 3) Try.isAgg3 hS rfl rfl rfl) fun a hS => st_v hS rfl rfl (run_idxArr (fun W => ia62_1 _ _ W) hS rfl rfl) fun a hS => st_v hS rfl rfl (run_load_one (i := 3) Try.isAgg3 hS rfl rfl rfl) fun a hS => st_call (ref02_Glide Vr r A (Hr _ hS.below)) Try.call37 hS rfl rfl rfl fun v W a hR hB hlt hS => ?_
    subst hR
    refine st_v hS rfl rfl (run_move hS rfl) fun a hS => st_v hS rfl rfl (run_extract hS rfl rfl) fun a hS => st_v hS rfl rfl (run_extract hS rfl rfl) fun a hS => st_v hS rfl rfl (run_extract hS rfl rfl) fun a hS => st_alloc_agg Try.zeroValue34 hS rfl rfl fun W a b6 hS => st_alloc_agg Try.zeroValue34 hS rfl rfl fun W a b7 hS => st_store (i := 1) Try.sizeOf34 hS rfl rfl rfl rfl rfl rfl rfl rfl rfl fun W a hS => st_store (i := 0) Try.sizeOf34 hS rfl rfl rfl rfl rfl rfl rfl rfl rfl fun W a hS => st_v hS rfl rfl (run_assign hS rfl) fun a hS => wl_nil ?_
    have hS := hS.sub (κ' := [(0, _), (1, _), (2, _), (3, _), (4, _), (5, _), (6, _), (7, _), (8, _), (9, _), (10, _), (11, _), (12, _), (13, _)]) (Sub.cons rfl (Sub.cons rfl (Sub.cons rfl (Sub.cons rfl (Sub.cons rfl (Sub.cons rfl (Sub.cons rfl (Sub.cons rfl (Sub.cons rfl (Sub.cons rfl (Sub.cons rfl (Sub.cons rfl (Sub.cons rfl (Sub.cons rfl Sub.nil))))))))))))))
    refine wpIn_seq ?_
    refine wpIn_seq ?_
    refine wpIn_region_lit ?_
    refine st_v hS rfl rfl (run_load_all (i := 3) Try.isAgg34 Try.sizeOf34 hS rfl rfl rfl) fun a hS => st_v hS rfl rfl (run_load_all (i := 1) Try.isAgg34 Try.sizeOf34 hS rfl rfl rfl) fun a hS => st_v hS rfl rfl (run_test hS rfl rfl (fun W => eqN34 _ _ _ _ _ _ W)) fun a hS => st_v hS rfl rfl (run_move hS rfl) fun a hS => ?_
    refine st_split (d := 47) hS rfl (fun hc2 hS => ?_) (fun hc2 hS => ?_)
    · skip
      try simp only [decide_eq_true_eq, decide_eq_false_iff_not, Bool.not_eq_true', Bool.not_eq_false', bne_iff_ne, beq_iff_eq, bne_eq_false_iff_eq, beq_eq_false_iff_ne, ne_eq, Int.not_le, Int.not_lt, ge_iff_le, gt_iff_lt] at hc2
      simp at hc2
    · skip
      try simp only [decide_eq_true_eq, decide_eq_false_iff_not, Bool.not_eq_true', Bool.not_eq_false', bne_iff_ne, beq_iff_eq, bne_eq_false_iff_eq, beq_eq_false_iff_ne, ne_eq, Int.not_le, Int.not_lt, ge_iff_le, gt_iff_lt] at hc2
      
      refine st_v hS (hS.wanted rfl rfl rfl) rfl (run_load_all (i := 2) Try.isAgg34 Try.sizeOf34 hS rfl rfl rfl) fun a hS => st_v hS (hS.wanted rfl rfl rfl) rfl (run_load_all (i := 0) Try.isAgg34 Try.sizeOf34 hS rfl rfl rfl) fun a hS => st_v hS (hS.wanted rfl rfl rfl) rfl (run_test hS rfl rfl (fun W => eqN34 _ _ _ _ _ _ W)) fun a hS => st_v hS rfl rfl (run_pick_f hS rfl rfl) fun a hS => st_v hS rfl rfl (run_move hS rfl) fun a hS => ?_
      refine st_split (d := 52) hS rfl (fun hc3 hS => ?_) (fun hc3 hS => ?_)
      · skip
        try simp only [decide_eq_true_eq, decide_eq_false_iff_not, Bool.not_eq_true', Bool.not_eq_false', bne_iff_ne, beq_iff_eq, bne_eq_false_iff_eq, beq_eq_false_iff_ne, ne_eq, Int.not_le, Int.not_lt, ge_iff_le, gt_iff_lt] at hc3
        simp at hc3
      · skip
        try simp only [decide_eq_true_eq, decide_eq_false_iff_not, Bool.not_eq_true', Bool.not_eq_false', bne_iff_ne, beq_iff_eq, bne_eq_false_iff_eq, beq_eq_false_iff_ne, ne_eq, Int.not_le, Int.not_lt, ge_iff_le, gt_iff_lt] at hc3
        
        refine st_v hS (hS.wanted rfl rfl rfl) rfl (run_move hS rfl) fun a hS => st_v hS (hS.wanted rfl rfl rfl) rfl (run_move hS rfl) fun a hS => st_v hS (hS.wanted rfl rfl rfl) rfl (run_bin hS rfl rfl rfl) fun a hS => st_v hS rfl rfl (run_pick_f hS rfl rfl) fun a hS => wl_nil ?_
        refine st_cond hS rfl (fun hc4 => ?_) (fun hc4 => ?_)
        · skip
          try simp only [decide_eq_true_eq, decide_eq_false_iff_not, Bool.not_eq_true', Bool.not_eq_false', bne_iff_ne, beq_iff_eq, bne_eq_false_iff_eq, beq_eq_false_iff_ne, ne_eq, Int.not_le, Int.not_lt, ge_iff_le, gt_iff_lt] at hc4
          simp at hc4
        · skip
          try simp only [decide_eq_true_eq, decide_eq_false_iff_not, Bool.not_eq_true', Bool.not_eq_false', bne_iff_ne, beq_iff_eq, bne_eq_false_iff_eq, beq_eq_false_iff_ne, ne_eq, Int.not_le, Int.not_lt, ge_iff_le, gt_iff_lt] at hc4
          
          refine wpIn_skip ?_
          refine wpIn_seq ?_
          refine wpIn_region_lit ?_
          refine st_v hS rfl rfl (run_load_all (i := 4) Try.isAgg27 Try.sizeOf27 hS rfl rfl rfl) fun a hS => st_v hS rfl rfl (run_load_all (i := 6) Try.isAgg36 Try.sizeOf36 hS rfl rfl rfl) fun a hS => st_v hS rfl rfl (run_idxArr (fun W => ia62_0 _ _ W) hS rfl rfl) fun a hS => st_v hS rfl rfl (run_load_one (i := 5) Try.isAgg3 hS rfl rfl rfl) fun a hS => st_v hS rfl rfl (run_idxArr (fun W => ia62_2 _ _ W) hS rfl rfl) fun a hS => st_v hS rfl rfl (run_load_one (i := 5) Try.isAgg3 hS rfl rfl rfl) fun a hS => st_call (rotor_Glide V0 r A ((fun _ h => h) _ hS.now.2)) Try.call36 hS rfl rfl rfl fun v W a hR hB hlt hS => ?_
          subst hR
          refine st_v hS rfl rfl (run_move hS rfl) fun a hS => st_v hS rfl rfl (run_extract hS rfl rfl) fun a hS => st_v hS rfl rfl (run_extract hS rfl rfl) fun a hS => st_v hS rfl rfl (run_extract hS rfl rfl) fun a hS => st_alloc_agg Try.zeroValue34 hS rfl rfl fun W a b8 hS => st_alloc_agg Try.zeroValue34 hS rfl rfl fun W a b9 hS => st_store (i := 1) Try.sizeOf34 hS rfl rfl rfl rfl rfl rfl rfl rfl rfl fun W a hS => st_store (i := 0) Try.sizeOf34 hS rfl rfl rfl rfl rfl rfl rfl rfl rfl fun W a hS => st_v hS rfl rfl (run_assign hS rfl) fun a hS => wl_nil ?_
          refine wpIn_seq ?_
          refine wpIn_seq ?_
          refine wpIn_region_lit ?_
          refine st_v hS rfl rfl (run_move hS rfl) fun a hS => st_v hS rfl rfl (run_bin hS rfl rfl rfl) fun a hS => st_v hS rfl rfl (run_move hS rfl) fun a hS => ?_
          refine st_split (d := 70) hS rfl (fun hc5 hS => ?_) (fun hc5 hS => ?_)
          · skip
            try simp only [decide_eq_true_eq, decide_eq_false_iff_not, Bool.not_eq_true', Bool.not_eq_false', bne_iff_ne, beq_iff_eq, bne_eq_false_iff_eq, beq_eq_false_iff_ne, ne_eq, Int.not_le, Int.not_lt, ge_iff_le, gt_iff_lt] at hc5
            refine st_skip hS (hS.unwanted rfl rfl rfl rfl) rfl fun a hS => st_skip hS (hS.unwanted rfl rfl rfl rfl) rfl fun a hS => st_v hS rfl rfl (run_pick_t hS rfl rfl) fun a hS => st_v hS rfl rfl (run_move hS rfl) fun a hS => st_skip hS (hS.unwanted rfl rfl rfl rfl) rfl fun a hS => st_skip hS (hS.unwanted rfl rfl rfl rfl) rfl fun a hS => st_skip hS (hS.unwanted rfl rfl rfl rfl) rfl fun a hS => st_skip hS (hS.unwanted rfl rfl rfl rfl) rfl fun a hS => st_skip hS (hS.unwanted rfl rfl rfl rfl) rfl fun a hS => st_v hS rfl rfl (run_pick_t hS rfl rfl) fun a hS => wl_nil ?_
            have hS := hS.sub (κ' := [(0, _), (1, _), (2, _), (3, _), (4, _), (5, _), (6, _), (7, _), (8, _), (9, _), (10, _), (11, _), (12, _), (13, _), (14, _), (15, _), (16, _), (80, _)]) (Sub.cons rfl (Sub.cons rfl (Sub.cons rfl (Sub.cons rfl (Sub.cons rfl (Sub.cons rfl (Sub.cons rfl (Sub.cons rfl (Sub.cons rfl (Sub.cons rfl (Sub.cons rfl (Sub.cons rfl (Sub.cons rfl (Sub.cons rfl (Sub.cons rfl (Sub.cons rfl (Sub.cons rfl (Sub.cons rfl Sub.nil))))))))))))))))))
            refine st_cond_t hS rfl ?_
            refine wpIn_seq ?_
            refine wpIn_region_lit ?_
            refine st_call (law02_works) Try.call16 hS rfl rfl rfl fun v W a hR hB hlt hS => ?_
            subst hR
            refine st_v hS rfl rfl (run_assign hS rfl) fun a hS => wl_nil ?_
            refine wpIn_ret ?_
            repeat (first | refine q_ret ?_ | refine q_block_ret ?_)
            refine hS.done (res1 (fn := Try.f8) (r1 := .tmp 6) rfl (rv_tmp hS rfl)) ?_
            rfl
          · skip
            try simp only [decide_eq_true_eq, decide_eq_false_iff_not, Bool.not_eq_true', Bool.not_eq_false', bne_iff_ne, beq_iff_eq, bne_eq_false_iff_eq, beq_eq_false_iff_ne, ne_eq, Int.not_le, Int.not_lt, ge_iff_le, gt_iff_lt] at hc5
            
            refine st_v hS (hS.wanted rfl rfl rfl) rfl (run_move hS rfl) fun a hS => st_v hS (hS.wanted rfl rfl rfl) rfl (run_bin hS rfl rfl rfl) fun a hS => st_v hS rfl rfl (run_pick_f hS rfl rfl) fun a hS => st_v hS rfl rfl (run_move hS rfl) fun a hS => ?_
            refine st_split (d := 74) hS rfl (fun hc6 hS => ?_) (fun hc6 hS => ?_)
            · skip
              try simp only [decide_eq_true_eq, decide_eq_false_iff_not, Bool.not_eq_true', Bool.not_eq_false', bne_iff_ne, beq_iff_eq, bne_eq_false_iff_eq, beq_eq_false_iff_ne, ne_eq, Int.not_le, Int.not_lt, ge_iff_le, gt_iff_lt] at hc6
              refine st_skip hS (hS.unwanted rfl rfl rfl rfl) rfl fun a hS => st_skip hS (hS.unwanted rfl rfl rfl rfl) rfl fun a hS => st_skip hS (hS.unwanted rfl rfl rfl rfl) rfl fun a hS => st_skip hS (hS.unwanted rfl rfl rfl rfl) rfl fun a hS => st_skip hS (hS.unwanted rfl rfl rfl rfl) rfl fun a hS => st_v hS rfl rfl (run_pick_t hS rfl rfl) fun a hS => wl_nil ?_
              have hS := hS.sub (κ' := [(0, _), (1, _), (2, _), (3, _), (4, _), (5, _), (6, _), (7, _), (8, _), (9, _), (10, _), (11, _), (12, _), (13, _), (14, _), (15, _), (16, _), (80, _)]) (Sub.cons rfl (Sub.cons rfl (Sub.cons rfl (Sub.cons rfl (Sub.cons rfl (Sub.cons rfl (Sub.cons rfl (Sub.cons rfl (Sub.cons rfl (Sub.cons rfl (Sub.cons rfl (Sub.cons rfl (Sub.cons rfl (Sub.cons rfl (Sub.cons rfl (Sub.cons rfl (Sub.cons rfl (Sub.cons rfl Sub.nil))))))))))))))))))
              refine st_cond_t hS rfl ?_
              refine wpIn_seq ?_
              refine wpIn_region_lit ?_
              refine st_call (law02_works) Try.call16 hS rfl rfl rfl fun v W a hR hB hlt hS => ?_
              subst hR
              refine st_v hS rfl rfl (run_assign hS rfl) fun a hS => wl_nil ?_
              refine wpIn_ret ?_
              repeat (first | refine q_ret ?_ | refine q_block_ret ?_)
              refine hS.done (res1 (fn := Try.f8) (r1 := .tmp 6) rfl (rv_tmp hS rfl)) ?_
              rfl
            · skip
              try simp only [decide_eq_true_eq, decide_eq_false_iff_not, Bool.not_eq_true', Bool.not_eq_false', bne_iff_ne, beq_iff_eq, bne_eq_false_iff_eq, beq_eq_false_iff_ne, ne_eq, Int.not_le, Int.not_lt, ge_iff_le, gt_iff_lt] at hc6
              
              refine st_v hS (hS.wanted rfl rfl rfl) rfl (run_idxArr (fun W => ia62_2 _ _ W) hS rfl rfl) fun a hS => st_v hS (hS.wanted rfl rfl rfl) rfl (run_load_one (i := 7) Try.isAgg3 hS rfl rfl rfl) fun a hS => st_v hS (hS.wanted rfl rfl rfl) rfl (run_idxArr (fun W => ia62_1 _ _ W) hS rfl rfl) fun a hS => st_v hS (hS.wanted rfl rfl rfl) rfl (run_load_one (i := 7) Try.isAgg3 hS rfl rfl rfl) fun a hS => st_v hS (hS.wanted rfl rfl rfl) rfl (run_bin hS rfl rfl rfl) fun a hS => st_v hS rfl rfl (run_pick_f hS rfl rfl) fun a hS => wl_nil ?_
              have hS := hS.sub (κ' := [(0, _), (1, _), (2, _), (3, _), (4, _), (5, _), (6, _), (7, _), (8, _), (9, _), (10, _), (11, _), (12, _), (13, _), (14, _), (15, _), (16, _), (80, _)]) (Sub.cons rfl (Sub.cons rfl (Sub.cons rfl (Sub.cons rfl (Sub.cons rfl (Sub.cons rfl (Sub.cons rfl (Sub.cons rfl (Sub.cons rfl (Sub.cons rfl (Sub.cons rfl (Sub.cons rfl (Sub.cons rfl (Sub.cons rfl (Sub.cons rfl (Sub.cons rfl (Sub.cons rfl (Sub.cons rfl Sub.nil))))))))))))))))))
              refine st_cond hS rfl (fun hc7 => ?_) (fun hc7 => ?_)
              · skip
                try simp only [decide_eq_true_eq, decide_eq_false_iff_not, Bool.not_eq_true', Bool.not_eq_false', bne_iff_ne, beq_iff_eq, bne_eq_false_iff_eq, beq_eq_false_iff_ne, ne_eq, Int.not_le, Int.not_lt, ge_iff_le, gt_iff_lt] at hc7
                refine wpIn_seq ?_
                refine wpIn_region_lit ?_
                refine st_call (law02_works) Try.call16 hS rfl rfl rfl fun v W a hR hB hlt hS => ?_
                subst hR
                refine st_v hS rfl rfl (run_assign hS rfl) fun a hS => wl_nil ?_
                refine wpIn_ret ?_
                repeat (first | refine q_ret ?_ | refine q_block_ret ?_)
                refine hS.done (res1 (fn := Try.f8) (r1 := .tmp 6) rfl (rv_tmp hS rfl)) ?_
                rfl
              · skip
                try simp only [decide_eq_true_eq, decide_eq_false_iff_not, Bool.not_eq_true', Bool.not_eq_false', bne_iff_ne, beq_iff_eq, bne_eq_false_iff_eq, beq_eq_false_iff_ne, ne_eq, Int.not_le, Int.not_lt, ge_iff_le, gt_iff_lt] at hc7
                have hgm := glide_mono hc5 hc6 hc7
                refine wpIn_skip ?_
                refine wpIn_seq ?_
                refine wpIn_region_lit ?_
                refine st_v hS rfl rfl (run_fieldAddr fa34_0 hS rfl) fun a hS => st_v hS rfl rfl (run_load_one (i := 1) Try.isAgg3 hS rfl rfl rfl) fun a hS => st_v hS rfl rfl (run_fieldAddr fa34_0 hS rfl) fun a hS => st_v hS rfl rfl (run_load_one (i := 5) Try.isAgg3 hS rfl rfl rfl) fun a hS => st_v hS rfl rfl (run_bin hS rfl rfl rfl) fun a hS => st_v hS rfl rfl (run_move hS rfl) fun a hS => ?_
                refine st_split (d := 87) hS rfl (fun hc8 hS => ?_) (fun hc8 hS => ?_)
                · skip
                  try simp only [decide_eq_true_eq, decide_eq_false_iff_not, Bool.not_eq_true', Bool.not_eq_false', bne_iff_ne, beq_iff_eq, bne_eq_false_iff_eq, beq_eq_false_iff_ne, ne_eq, Int.not_le, Int.not_lt, ge_iff_le, gt_iff_lt] at hc8
                  
                  refine st_v hS (hS.wanted rfl rfl rfl) rfl (run_fieldAddr fa34_1 hS rfl) fun a hS => st_v hS (hS.wanted rfl rfl rfl) rfl (run_load_one (i := 1) Try.isAgg3 hS rfl rfl rfl) fun a hS => st_v hS (hS.wanted rfl rfl rfl) rfl (run_fieldAddr fa34_1 hS rfl) fun a hS => st_v hS (hS.wanted rfl rfl rfl) rfl (run_load_one (i := 5) Try.isAgg3 hS rfl rfl rfl) fun a hS => st_v hS (hS.wanted rfl rfl rfl) rfl (run_bin hS rfl rfl rfl) fun a hS => st_v hS rfl rfl (run_pick_t hS rfl rfl) fun a hS => st_v hS rfl rfl (run_move hS rfl) fun a hS => ?_
                  refine st_split (d := 94) hS rfl (fun hc9 hS => ?_) (fun hc9 hS => ?_)
                  · skip
                    try simp only [decide_eq_true_eq, decide_eq_false_iff_not, Bool.not_eq_true', Bool.not_eq_false', bne_iff_ne, beq_iff_eq, bne_eq_false_iff_eq, beq_eq_false_iff_ne, ne_eq, Int.not_le, Int.not_lt, ge_iff_le, gt_iff_lt] at hc9
                    
                    refine st_v hS (hS.wanted rfl rfl rfl) rfl (run_fieldAddr fa34_0 hS rfl) fun a hS => st_v hS (hS.wanted rfl rfl rfl) rfl (run_load_one (i := 0) Try.isAgg3 hS rfl rfl rfl) fun a hS => st_v hS (hS.wanted rfl rfl rfl) rfl (run_fieldAddr fa34_0 hS rfl) fun a hS => st_v hS (hS.wanted rfl rfl rfl) rfl (run_load_one (i := 4) Try.isAgg3 hS rfl rfl rfl) fun a hS => st_v hS (hS.wanted rfl rfl rfl) rfl (run_bin hS rfl rfl rfl) fun a hS => st_v hS rfl rfl (run_pick_t hS rfl rfl) fun a hS => st_v hS rfl rfl (run_move hS rfl) fun a hS => ?_
                    refine st_split (d := 101) hS rfl (fun hc10 hS => ?_) (fun hc10 hS => ?_)
                    · skip
                      try simp only [decide_eq_true_eq, decide_eq_false_iff_not, Bool.not_eq_true', Bool.not_eq_false', bne_iff_ne, beq_iff_eq, bne_eq_false_iff_eq, beq_eq_false_iff_ne, ne_eq, Int.not_le, Int.not_lt, ge_iff_le, gt_iff_lt] at hc10
                      
                      refine st_v hS (hS.wanted rfl rfl rfl) rfl (run_fieldAddr fa34_1 hS rfl) fun a hS => st_v hS (hS.wanted rfl rfl rfl) rfl (run_load_one (i := 0) Try.isAgg3 hS rfl rfl rfl) fun a hS => st_v hS (hS.wanted rfl rfl rfl) rfl (run_fieldAddr fa34_1 hS rfl) fun a hS => st_v hS (hS.wanted rfl rfl rfl) rfl (run_load_one (i := 4) Try.isAgg3 hS rfl rfl rfl) fun a hS => st_v hS (hS.wanted rfl rfl rfl) rfl (run_bin hS rfl rfl rfl) fun a hS => st_v hS rfl rfl (run_pick_t hS rfl rfl) fun a hS => st_v hS rfl rfl (run_move hS rfl) fun a hS => ?_
                      refine st_split (d := 108) hS rfl (fun hc11 hS => ?_) (fun hc11 hS => ?_)
                      · skip
                        try simp only [decide_eq_true_eq, decide_eq_false_iff_not, Bool.not_eq_true', Bool.not_eq_false', bne_iff_ne, beq_iff_eq, bne_eq_false_iff_eq, beq_eq_false_iff_ne, ne_eq, Int.not_le, Int.not_lt, ge_iff_le, gt_iff_lt] at hc11
                        
                        refine st_call (law02_works) Try.call16 hS (hS.wanted rfl rfl rfl) rfl rfl fun v W a hR hB hlt hS => ?_
                        subst hR
                        refine st_v hS rfl rfl (run_pick_t hS rfl rfl) fun a hS => st_v hS rfl rfl (run_assign hS rfl) fun a hS => wl_nil ?_
                        have hS := hS.sub (κ' := [(0, _), (1, _), (2, _), (3, _), (4, _), (5, _), (6, _), (7, _), (8, _), (9, _), (10, _), (11, _), (12, _), (13, _), (14, _), (15, _), (16, _)]) (Sub.cons rfl (Sub.cons rfl (Sub.cons rfl (Sub.cons rfl (Sub.cons rfl (Sub.cons rfl (Sub.cons rfl (Sub.cons rfl (Sub.cons rfl (Sub.cons rfl (Sub.cons rfl (Sub.cons rfl (Sub.cons rfl (Sub.cons rfl (Sub.cons rfl (Sub.cons rfl (Sub.cons rfl Sub.nil)))))))))))))))))
                        refine wpIn_ret ?_
                        repeat (first | refine q_ret ?_ | refine q_block_ret ?_)
                        refine hS.done (res1 (fn := Try.f8) (r1 := .tmp 6) rfl (rv_tmp hS rfl)) ?_
                        rfl
                      · skip
                        try simp only [decide_eq_true_eq, decide_eq_false_iff_not, Bool.not_eq_true', Bool.not_eq_false', bne_iff_ne, beq_iff_eq, bne_eq_false_iff_eq, beq_eq_false_iff_ne, ne_eq, Int.not_le, Int.not_lt, ge_iff_le, gt_iff_lt] at hc11
                        refine st_skip hS (hS.unwanted rfl rfl rfl rfl) rfl fun a hS => st_v hS rfl rfl (run_pick_f hS rfl rfl) fun a hS => st_v hS rfl rfl (run_assign hS rfl) fun a hS => wl_nil ?_
                        have hS := hS.sub (κ' := [(0, _), (1, _), (2, _), (3, _), (4, _), (5, _), (6, _), (7, _), (8, _), (9, _), (10, _), (11, _), (12, _), (13, _), (14, _), (15, _), (16, _)]) (Sub.cons rfl (Sub.cons rfl (Sub.cons rfl (Sub.cons rfl (Sub.cons rfl (Sub.cons rfl (Sub.cons rfl (Sub.cons rfl (Sub.cons rfl (Sub.cons rfl (Sub.cons rfl (Sub.cons rfl (Sub.cons rfl (Sub.cons rfl (Sub.cons rfl (Sub.cons rfl (Sub.cons rfl Sub.nil)))))))))))))))))
                        refine wpIn_ret ?_
                        repeat (first | refine q_ret ?_ | refine q_block_ret ?_)
                        refine hS.done (res1 (fn := Try.f8) (r1 := .tmp 6) rfl (rv_tmp hS rfl)) ?_
                        exfalso; omega
                    · skip
                      try simp only [decide_eq_true_eq, decide_eq_false_iff_not, Bool.not_eq_true', Bool.not_eq_false', bne_iff_ne, beq_iff_eq, bne_eq_false_iff_eq, beq_eq_false_iff_ne, ne_eq, Int.not_le, Int.not_lt, ge_iff_le, gt_iff_lt] at hc10
                      refine st_skip hS (hS.unwanted rfl rfl rfl rfl) rfl fun a hS => st_skip hS (hS.unwanted rfl rfl rfl rfl) rfl fun a hS => st_skip hS (hS.unwanted rfl rfl rfl rfl) rfl fun a hS => st_skip hS (hS.unwanted rfl rfl rfl rfl) rfl fun a hS => st_skip hS (hS.unwanted rfl rfl rfl rfl) rfl fun a hS => st_v hS rfl rfl (run_pick_f hS rfl rfl) fun a hS => st_v hS rfl rfl (run_move hS rfl) fun a hS => st_skip hS (hS.unwanted rfl rfl rfl rfl) rfl fun a hS => st_v hS rfl rfl (run_pick_f hS rfl rfl) fun a hS => st_v hS rfl rfl (run_assign hS rfl) fun a hS => wl_nil ?_
                      have hS := hS.sub (κ' := [(0, _), (1, _), (2, _), (3, _), (4, _), (5, _), (6, _), (7, _), (8, _), (9, _), (10, _), (11, _), (12, _), (13, _), (14, _), (15, _), (16, _)]) (Sub.cons rfl (Sub.cons rfl (Sub.cons rfl (Sub.cons rfl (Sub.cons rfl (Sub.cons rfl (Sub.cons rfl (Sub.cons rfl (Sub.cons rfl (Sub.cons rfl (Sub.cons rfl (Sub.cons rfl (Sub.cons rfl (Sub.cons rfl (Sub.cons rfl (Sub.cons rfl (Sub.cons rfl Sub.nil)))))))))))))))))
                      refine wpIn_ret ?_
                      repeat (first | refine q_ret ?_ | refine q_block_ret ?_)
                      refine hS.done (res1 (fn := Try.f8) (r1 := .tmp 6) rfl (rv_tmp hS rfl)) ?_
                      exfalso; omega
                  · skip
                    try simp only [decide_eq_true_eq, decide_eq_false_iff_not, Bool.not_eq_true', Bool.not_eq_false', bne_iff_ne, beq_iff_eq, bne_eq_false_iff_eq, beq_eq_false_iff_ne, ne_eq, Int.not_le, Int.not_lt, ge_iff_le, gt_iff_lt] at hc9
                    refine st_skip hS (hS.unwanted rfl rfl rfl rfl) rfl fun a hS => st_skip hS (hS.unwanted rfl rfl rfl rfl) rfl fun a hS => st_skip hS (hS.unwanted rfl rfl rfl rfl) rfl fun a hS => st_skip hS (hS.unwanted rfl rfl rfl rfl) rfl fun a hS => st_skip hS (hS.unwanted rfl rfl rfl rfl) rfl fun a hS => st_v hS rfl rfl (run_pick_f hS rfl rfl) fun a hS => st_v hS rfl rfl (run_move hS rfl) fun a hS => st_skip hS (hS.unwanted rfl rfl rfl rfl) rfl fun a hS => st_skip hS (hS.unwanted rfl rfl rfl rfl) rfl fun a hS => st_skip hS (hS.unwanted rfl rfl rfl rfl) rfl fun a hS => st_skip hS (hS.unwanted rfl rfl rfl rfl) rfl fun a hS => st_skip hS (hS.unwanted rfl rfl rfl rfl) rfl fun a hS => st_v hS rfl rfl (run_pick_f hS rfl rfl) fun a hS => st_v hS rfl rfl (run_move hS rfl) fun a hS => st_skip hS (hS.unwanted rfl rfl rfl rfl) rfl fun a hS => st_v hS rfl rfl (run_pick_f hS rfl rfl) fun a hS => st_v hS rfl rfl (run_assign hS rfl) fun a hS => wl_nil ?_
                    have hS := hS.sub (κ' := [(0, _), (1, _), (2, _), (3, _), (4, _), (5, _), (6, _), (7, _), (8, _), (9, _), (10, _), (11, _), (12, _), (13, _), (14, _), (15, _), (16, _)]) (Sub.cons rfl (Sub.cons rfl (Sub.cons rfl (Sub.cons rfl (Sub.cons rfl (Sub.cons rfl (Sub.cons rfl (Sub.cons rfl (Sub.cons rfl (Sub.cons rfl (Sub.cons rfl (Sub.cons rfl (Sub.cons rfl (Sub.cons rfl (Sub.cons rfl (Sub.cons rfl (Sub.cons rfl Sub.nil)))))))))))))))))
                    refine wpIn_ret ?_
                    repeat (first | refine q_ret ?_ | refine q_block_ret ?_)
                    refine hS.done (res1 (fn := Try.f8) (r1 := .tmp 6) rfl (rv_tmp hS rfl)) ?_
                    exfalso; omega
                · skip
                  try simp only [decide_eq_true_eq, decide_eq_false_iff_not, Bool.not_eq_true', Bool.not_eq_false', bne_iff_ne, beq_iff_eq, bne_eq_false_iff_eq, beq_eq_false_iff_ne, ne_eq, Int.not_le, Int.not_lt, ge_iff_le, gt_iff_lt] at hc8
                  refine st_skip hS (hS.unwanted rfl rfl rfl rfl) rfl fun a hS => st_skip hS (hS.unwanted rfl rfl rfl rfl) rfl fun a hS => st_skip hS (hS.unwanted rfl rfl rfl rfl) rfl fun a hS => st_skip hS (hS.unwanted rfl rfl rfl rfl) rfl fun a hS => st_skip hS (hS.unwanted rfl rfl rfl rfl) rfl fun a hS => st_v hS rfl rfl (run_pick_f hS rfl rfl) fun a hS => st_v hS rfl rfl (run_move hS rfl) fun a hS => st_skip hS (hS.unwanted rfl rfl rfl rfl) rfl fun a hS => st_skip hS (hS.unwanted rfl rfl rfl rfl) rfl fun a hS => st_skip hS (hS.unwanted rfl rfl rfl rfl) rfl fun a hS => st_skip hS (hS.unwanted rfl rfl rfl rfl) rfl fun a hS => st_skip hS (hS.unwanted rfl rfl rfl rfl) rfl fun a hS => st_v hS rfl rfl (run_pick_f hS rfl rfl) fun a hS => st_v hS rfl rfl (run_move hS rfl) fun a hS => st_skip hS (hS.unwanted rfl rfl rfl rfl) rfl fun a hS => st_skip hS (hS.unwanted rfl rfl rfl rfl) rfl fun a hS => st_skip hS (hS.unwanted rfl rfl rfl rfl) rfl fun a hS => st_skip hS (hS.unwanted rfl rfl rfl rfl) rfl fun a hS => st_skip hS (hS.unwanted rfl rfl rfl rfl) rfl fun a hS => st_v hS rfl rfl (run_pick_f hS rfl rfl) fun a hS => st_v hS rfl rfl (run_move hS rfl) fun a hS => st_skip hS (hS.unwanted rfl rfl rfl rfl) rfl fun a hS => st_v hS rfl rfl (run_pick_f hS rfl rfl) fun a hS => st_v hS rfl rfl (run_assign hS rfl) fun a hS => wl_nil ?_
                  have hS := hS.sub (κ' := [(0, _), (1, _), (2, _), (3, _), (4, _), (5, _), (6, _), (7, _), (8, _), (9, _), (10, _), (11, _), (12, _), (13, _), (14, _), (15, _), (16, _)]) (Sub.cons rfl (Sub.cons rfl (Sub.cons rfl (Sub.cons rfl (Sub.cons rfl (Sub.cons rfl (Sub.cons rfl (Sub.cons rfl (Sub.cons rfl (Sub.cons rfl (Sub.cons rfl (Sub.cons rfl (Sub.cons rfl (Sub.cons rfl (Sub.cons rfl (Sub.cons rfl (Sub.cons rfl Sub.nil)))))))))))))))))
                  refine wpIn_ret ?_
                  repeat (first | refine q_ret ?_ | refine q_block_ret ?_)
                  refine hS.done (res1 (fn := Try.f8) (r1 := .tmp 6) rfl (rv_tmp hS rfl)) ?_
                  exfalso; omega

end Go.Proofs.Ytdnodlgebpnfoaa
