/- The specification's functions of rotors: margins of power, walked. -/
import Derived.Test.YtdnodlgebpnfoaaGreatRotor2
namespace Go.Proofs.YtdnodlgebpnfoaaGreat
open Go Go.RowKit Go.Shelf Sw
set_option linter.unusedVariables false
set_option linter.unusedSimpArgs false

theorem t2i {p q e e' : Int} (h1 : p = q) (h2 : e = e') : Value.tuple #[.int .i64 p, .int .i64 e] = Value.tuple #[.int .i64 q, .int .i64 e'] := by subst h1 h2; rfl
theorem t1s {p q : Span} (h : p = q) : Value.agg (spanC p).toArray = .agg (spanC q).toArray := by subst h; rfl
theorem errC_t {r : Rot} {a : Air} {b : Bool} (h : ¬ errC r a true = 0) : errC r a b = errC r a true := by
  unfold errC at *
  cases h1 : rotOk r <;> cases h2 : airOk a <;> simp [h1, h2] at h ⊢
theorem errC_tf {r : Rot} {a : Air} {b : Bool} (h1 : rotOk r = true) (h2 : airOk a = true) (h : b = false) : errC r a b = 1 := by subst h; exact errC_if h1 h2
theorem errC_tt {r : Rot} {a : Air} {b : Bool} (h1 : rotOk r = true) (h2 : airOk a = true) (h : b = true) : errC r a b = 0 := by subst h; exact errC_if h1 h2


set_option maxHeartbeats 2000000 in
set_option maxRecDepth 100000 in
theorem ref02_CheckAir  (Vr : RV) (r : Rot) (A : Air) {w : World} {Fr : Nat → Prop} (hr : RotR Fr w Vr r)  : Ret Tryz.prog 160 [.agg (rotC Vr r).toArray, .agg (airC A).toArray] w (fun v _ => v = .int .i64 (errC r A true)) := by
 refine ret_start (n := 33) Tryz.func160 rfl rfl rfl (fun a hS => ?_)
 have Hr : ∀ W, Below w.heap.size w W → RotR Fr W Vr r := fun W hb => hr.move (keep_of hb)
 refine wpIn_seq ?_
 refine wpIn_region_lit ?_
 refine st_box_agg hS rfl rfl rfl fun W a b0 hS => st_box_agg hS rfl rfl rfl fun W a b1 hS => st_v hS rfl rfl (run_assign hS rfl) fun a hS => wl_nil ?_
 refine wpIn_seq ?_
 refine wpIn_region_lit ?_
 refine st_v hS rfl rfl (run_load_all (i := 1) Tryz.isAgg27 Tryz.sizeOf27 hS rfl rfl rfl) fun a hS => st_call (ref02_Check Vr r (Hr _ hS.below)) Tryz.call99 hS rfl rfl rfl fun v W a hR hB hlt hS => ?_
 subst hR
 refine st_v hS rfl rfl (run_assign hS rfl) fun a hS => wl_nil ?_
 refine wpIn_seq ?_
 refine wpIn_seq ?_
 refine wpIn_region_lit ?_
 refine st_v hS rfl rfl (run_move hS rfl) fun a hS => st_v hS rfl rfl (run_bin hS rfl rfl rfl) fun a hS => wl_nil ?_
 refine st_cond hS rfl (fun hc1 => ?_) (fun hc1 => ?_)
 ·
  try simp only [ty] at hc1
  refine wpIn_seq ?_
  refine wpIn_region_lit ?_
  refine st_v hS rfl rfl (run_move hS rfl) fun a hS => st_v hS rfl rfl (run_assign hS rfl) fun a hS => wl_nil ?_
  refine wpIn_ret ?_
  repeat (first | refine q_ret ?_ | refine q_block_ret ?_)
  refine hS.done (res1 (fn := Tryz.f160) (r1 := .tmp 4) rfl (rv_tmp hS rfl)) ?_
  rw [errC_rot (chk_no hc1), checkRot, chk_no hc1]; rfl
 ·
  try simp only [ty] at hc1
  have hrok := chk_ok hc1
  refine wpIn_skip ?_
  refine wpIn_seq ?_
  refine wpIn_seq ?_
  refine wpIn_region_lit ?_
  refine st_v hS rfl rfl (run_fieldAddr fa33_0 hS rfl) fun a hS => st_v hS rfl rfl (run_load_agg (i := 0) (vs := [_, _]) Tryz.isAgg31 Tryz.sizeOf31 hS rfl rfl rfl ⟨rfl, rfl, trivial⟩) fun a hS => st_call (ref01_Valid A.weight) Tryz.call184 hS rfl rfl rfl fun v W a hR hB hlt hS => ?_
  subst hR
  refine st_v hS rfl rfl (run_not hS rfl) fun a hS => st_v hS rfl rfl (run_move hS rfl) fun a hS => ?_
  refine st_split (d := 15) hS rfl (fun hc2 hS => ?_) (fun hc2 hS => ?_)
  ·
   try simp only [ty] at hc2
   refine st_skip hS (hS.unwanted rfl rfl rfl rfl) rfl fun a hS => st_skip hS (hS.unwanted rfl rfl rfl rfl) rfl fun a hS => st_skip hS (hS.unwanted rfl rfl rfl rfl) rfl fun a hS => st_skip hS (hS.unwanted rfl rfl rfl rfl) rfl fun a hS => st_v hS rfl rfl (run_pick_t hS rfl rfl) fun a hS => st_v hS rfl rfl (run_move hS rfl) fun a hS => st_skip hS (hS.unwanted rfl rfl rfl rfl) rfl fun a hS => st_skip hS (hS.unwanted rfl rfl rfl rfl) rfl fun a hS => st_skip hS (hS.unwanted rfl rfl rfl rfl) rfl fun a hS => st_skip hS (hS.unwanted rfl rfl rfl rfl) rfl fun a hS => st_v hS rfl rfl (run_pick_t hS rfl rfl) fun a hS => st_v hS rfl rfl (run_move hS rfl) fun a hS => st_skip hS (hS.unwanted rfl rfl rfl rfl) rfl fun a hS => st_skip hS (hS.unwanted rfl rfl rfl rfl) rfl fun a hS => st_skip hS (hS.unwanted rfl rfl rfl rfl) rfl fun a hS => st_skip hS (hS.unwanted rfl rfl rfl rfl) rfl fun a hS => st_v hS rfl rfl (run_pick_t hS rfl rfl) fun a hS => wl_nil ?_
   have hS := hS.sub (κ' := [(0, _), (1, _), (2, _), (3, _), (4, _), (5, _), (32, _)]) (Sub.cons rfl (Sub.cons rfl (Sub.cons rfl (Sub.cons rfl (Sub.cons rfl (Sub.cons rfl (Sub.cons rfl Sub.nil)))))))
   refine st_cond_t hS rfl ?_
   refine wpIn_seq ?_
   refine wpIn_region_lit ?_
   refine st_v hS rfl rfl (run_assign hS rfl) fun a hS => wl_nil ?_
   refine wpIn_ret ?_
   repeat (first | refine q_ret ?_ | refine q_block_ret ?_)
   refine hS.done (res1 (fn := Tryz.f160) (r1 := .tmp 4) rfl (rv_tmp hS rfl)) ?_
   rw [errC_air hrok (by simp [airOk, hc1, hc2])]
  ·
   try simp only [ty] at hc2
   refine st_v hS (hS.wanted rfl rfl rfl) rfl (run_fieldAddr fa33_1 hS rfl) fun a hS => st_v hS (hS.wanted rfl rfl rfl) rfl (run_load_agg (i := 0) (vs := [_, _]) Tryz.isAgg31 Tryz.sizeOf31 hS rfl rfl rfl ⟨rfl, rfl, trivial⟩) fun a hS => st_call (ref01_Valid A.temp) Tryz.call184 hS (hS.wanted rfl rfl rfl) rfl rfl fun v W a hR hB hlt hS => ?_
   subst hR
   refine st_v hS (hS.wanted rfl rfl rfl) rfl (run_not hS rfl) fun a hS => st_v hS rfl rfl (run_pick_f hS rfl rfl) fun a hS => st_v hS rfl rfl (run_move hS rfl) fun a hS => ?_
   refine st_split (d := 21) hS rfl (fun hc3 hS => ?_) (fun hc3 hS => ?_)
   ·
    try simp only [ty] at hc3
    refine st_skip hS (hS.unwanted rfl rfl rfl rfl) rfl fun a hS => st_skip hS (hS.unwanted rfl rfl rfl rfl) rfl fun a hS => st_skip hS (hS.unwanted rfl rfl rfl rfl) rfl fun a hS => st_skip hS (hS.unwanted rfl rfl rfl rfl) rfl fun a hS => st_v hS rfl rfl (run_pick_t hS rfl rfl) fun a hS => st_v hS rfl rfl (run_move hS rfl) fun a hS => st_skip hS (hS.unwanted rfl rfl rfl rfl) rfl fun a hS => st_skip hS (hS.unwanted rfl rfl rfl rfl) rfl fun a hS => st_skip hS (hS.unwanted rfl rfl rfl rfl) rfl fun a hS => st_skip hS (hS.unwanted rfl rfl rfl rfl) rfl fun a hS => st_v hS rfl rfl (run_pick_t hS rfl rfl) fun a hS => wl_nil ?_
    have hS := hS.sub (κ' := [(0, _), (1, _), (2, _), (3, _), (4, _), (5, _), (32, _)]) (Sub.cons rfl (Sub.cons rfl (Sub.cons rfl (Sub.cons rfl (Sub.cons rfl (Sub.cons rfl (Sub.cons rfl Sub.nil)))))))
    refine st_cond_t hS rfl ?_
    refine wpIn_seq ?_
    refine wpIn_region_lit ?_
    refine st_v hS rfl rfl (run_assign hS rfl) fun a hS => wl_nil ?_
    refine wpIn_ret ?_
    repeat (first | refine q_ret ?_ | refine q_block_ret ?_)
    refine hS.done (res1 (fn := Tryz.f160) (r1 := .tmp 4) rfl (rv_tmp hS rfl)) ?_
    rw [errC_air hrok (by simp [airOk, hc1, hc2, hc3])]
   ·
    try simp only [ty] at hc3
    refine st_v hS (hS.wanted rfl rfl rfl) rfl (run_fieldAddr fa33_2 hS rfl) fun a hS => st_v hS (hS.wanted rfl rfl rfl) rfl (run_load_agg (i := 0) (vs := [_, _]) Tryz.isAgg31 Tryz.sizeOf31 hS rfl rfl rfl ⟨rfl, rfl, trivial⟩) fun a hS => st_call (ref01_Valid A.height) Tryz.call184 hS (hS.wanted rfl rfl rfl) rfl rfl fun v W a hR hB hlt hS => ?_
    subst hR
    refine st_v hS (hS.wanted rfl rfl rfl) rfl (run_not hS rfl) fun a hS => st_v hS rfl rfl (run_pick_f hS rfl rfl) fun a hS => st_v hS rfl rfl (run_move hS rfl) fun a hS => ?_
    refine st_split (d := 27) hS rfl (fun hc4 hS => ?_) (fun hc4 hS => ?_)
    ·
     try simp only [ty] at hc4
     refine st_skip hS (hS.unwanted rfl rfl rfl rfl) rfl fun a hS => st_skip hS (hS.unwanted rfl rfl rfl rfl) rfl fun a hS => st_skip hS (hS.unwanted rfl rfl rfl rfl) rfl fun a hS => st_skip hS (hS.unwanted rfl rfl rfl rfl) rfl fun a hS => st_v hS rfl rfl (run_pick_t hS rfl rfl) fun a hS => wl_nil ?_
     have hS := hS.sub (κ' := [(0, _), (1, _), (2, _), (3, _), (4, _), (5, _), (32, _)]) (Sub.cons rfl (Sub.cons rfl (Sub.cons rfl (Sub.cons rfl (Sub.cons rfl (Sub.cons rfl (Sub.cons rfl Sub.nil)))))))
     refine st_cond_t hS rfl ?_
     refine wpIn_seq ?_
     refine wpIn_region_lit ?_
     refine st_v hS rfl rfl (run_assign hS rfl) fun a hS => wl_nil ?_
     refine wpIn_ret ?_
     repeat (first | refine q_ret ?_ | refine q_block_ret ?_)
     refine hS.done (res1 (fn := Tryz.f160) (r1 := .tmp 4) rfl (rv_tmp hS rfl)) ?_
     rw [errC_air hrok (by simp [airOk, hc1, hc2, hc3, hc4])]
    ·
     try simp only [ty] at hc4
     refine st_v hS (hS.wanted rfl rfl rfl) rfl (run_fieldAddr fa33_3 hS rfl) fun a hS => st_v hS (hS.wanted rfl rfl rfl) rfl (run_load_agg (i := 0) (vs := [_, _]) Tryz.isAgg31 Tryz.sizeOf31 hS rfl rfl rfl ⟨rfl, rfl, trivial⟩) fun a hS => st_call (ref01_Valid A.wind) Tryz.call184 hS (hS.wanted rfl rfl rfl) rfl rfl fun v W a hR hB hlt hS => ?_
     subst hR
     refine st_v hS (hS.wanted rfl rfl rfl) rfl (run_not hS rfl) fun a hS => st_v hS rfl rfl (run_pick_f hS rfl rfl) fun a hS => wl_nil ?_
     have hS := hS.sub (κ' := [(0, _), (1, _), (2, _), (3, _), (4, _), (5, _), (32, _)]) (Sub.cons rfl (Sub.cons rfl (Sub.cons rfl (Sub.cons rfl (Sub.cons rfl (Sub.cons rfl (Sub.cons rfl Sub.nil)))))))
     refine st_cond hS rfl (fun hc5 => ?_) (fun hc5 => ?_)
     ·
      try simp only [ty] at hc5
      refine wpIn_seq ?_
      refine wpIn_region_lit ?_
      refine st_v hS rfl rfl (run_assign hS rfl) fun a hS => wl_nil ?_
      refine wpIn_ret ?_
      repeat (first | refine q_ret ?_ | refine q_block_ret ?_)
      refine hS.done (res1 (fn := Tryz.f160) (r1 := .tmp 4) rfl (rv_tmp hS rfl)) ?_
      rw [errC_air hrok (by simp [airOk, hc1, hc2, hc3, hc4, hc5])]
     ·
      try simp only [ty] at hc5
      refine wpIn_skip ?_
      refine wpIn_seq ?_
      refine wpIn_region_lit ?_
      refine st_v hS rfl rfl (run_assign hS rfl) fun a hS => wl_nil ?_
      refine wpIn_ret ?_
      repeat (first | refine q_ret ?_ | refine q_block_ret ?_)
      refine hS.done (res1 (fn := Tryz.f160) (r1 := .tmp 4) rfl (rv_tmp hS rfl)) ?_
      rw [errC_if hrok (by simp [airOk, hc1, hc2, hc3, hc4, hc5])]; rfl


set_option maxHeartbeats 2000000 in
set_option maxRecDepth 100000 in
theorem ref02_lies  (Vt : TV) (t : Tab) (p : Span) (q : Span) {w : World} {Ft : Nat → Prop} (ht : TabR Ft w Vt t) (hok : tabOk t = true) : Ret Tryz.prog 112 [.agg (tabC Vt t).toArray, .agg (spanC p).toArray, .agg (spanC q).toArray] w (fun v _ => v = .bool (p.ok && q.ok && liesT t p q)) := by
 refine ret_start (n := 25) Tryz.func112 rfl rfl rfl (fun a hS => ?_)
 have Ht : ∀ W, Below w.heap.size w W → TabR Ft W Vt t := fun W hb => ht.move (keep_of hb)
 have hmtx := ht.1.len
 have hmty := ht.2.1.len
 have hmtv := ht.2.2.len
 obtain ⟨hX, hY, _, _⟩ := tab_axes hok
 have h2 := hX.two; have h3 := hY.two
 refine wpIn_seq ?_
 refine wpIn_region_lit ?_
 refine st_box_agg hS rfl rfl rfl fun W a b0 hS => st_box_agg hS rfl rfl rfl fun W a b1 hS => st_box_agg hS rfl rfl rfl fun W a b2 hS => st_v hS rfl rfl (run_assign hS rfl) fun a hS => wl_nil ?_
 refine wpIn_seq ?_
 refine wpIn_region_lit ?_
 refine st_v hS rfl rfl (run_load_all (i := 1) Tryz.isAgg31 Tryz.sizeOf31 hS rfl rfl rfl) fun a hS => st_call (ref01_Valid p) Tryz.call184 hS rfl rfl rfl fun v W a hR hB hlt hS => ?_
 subst hR
 refine st_v hS rfl rfl (run_move hS rfl) fun a hS => ?_
 refine st_split (d := 9) hS rfl (fun hc1 hS => ?_) (fun hc1 hS => ?_)
 ·
  try simp only [ty] at hc1
  refine st_v hS (hS.wanted rfl rfl rfl) rfl (run_load_all (i := 0) Tryz.isAgg31 Tryz.sizeOf31 hS rfl rfl rfl) fun a hS => st_call (ref01_Valid q) Tryz.call184 hS (hS.wanted rfl rfl rfl) rfl rfl fun v W a hR hB hlt hS => ?_
  subst hR
  refine st_v hS rfl rfl (run_pick_t hS rfl rfl) fun a hS => st_v hS rfl rfl (run_move hS rfl) fun a hS => ?_
  refine st_split (d := 13) hS rfl (fun hc2 hS => ?_) (fun hc2 hS => ?_)
  ·
   try simp only [ty] at hc2
   refine st_v hS (hS.wanted rfl rfl rfl) rfl (run_fieldAddr fa25_0 hS rfl) fun a hS => st_v hS (hS.wanted rfl rfl rfl) rfl (run_load_one (i := 2) Tryz.isAgg22 hS rfl rfl rfl) fun a hS => st_v hS (hS.wanted rfl rfl rfl) rfl (run_load_all (i := 1) Tryz.isAgg31 Tryz.sizeOf31 hS rfl rfl rfl) fun a hS => st_call (ref01_Between Vt.x t.X p ((fun W hC => (Ht W hC).1) _ hS.below) (by omega)) Tryz.call161 hS (hS.wanted rfl rfl rfl) rfl rfl fun v W a hR hB hlt hS => ?_
   subst hR
   refine st_v hS rfl rfl (run_pick_t hS rfl rfl) fun a hS => st_v hS rfl rfl (run_move hS rfl) fun a hS => ?_
   refine st_split (d := 19) hS rfl (fun hc3 hS => ?_) (fun hc3 hS => ?_)
   ·
    try simp only [ty] at hc3
    refine st_v hS (hS.wanted rfl rfl rfl) rfl (run_fieldAddr fa25_1 hS rfl) fun a hS => st_v hS (hS.wanted rfl rfl rfl) rfl (run_load_one (i := 2) Tryz.isAgg22 hS rfl rfl rfl) fun a hS => st_v hS (hS.wanted rfl rfl rfl) rfl (run_load_all (i := 0) Tryz.isAgg31 Tryz.sizeOf31 hS rfl rfl rfl) fun a hS => st_call (ref01_Between Vt.y t.Y q ((fun W hC => (Ht W hC).2.1) _ hS.below) (by omega)) Tryz.call161 hS (hS.wanted rfl rfl rfl) rfl rfl fun v W a hR hB hlt hS => ?_
    subst hR
    refine st_v hS rfl rfl (run_pick_t hS rfl rfl) fun a hS => st_v hS rfl rfl (run_assign hS rfl) fun a hS => wl_nil ?_
    refine wpIn_ret ?_
    repeat (first | refine q_ret ?_ | refine q_block_ret ?_)
    refine hS.done (res1 (fn := Tryz.f112) (r1 := .tmp 6) rfl (rv_tmp hS rfl)) ?_
    refine vb ?_; simp [liesT, hc1, hc2, hc3]
   ·
    try simp only [ty] at hc3
    refine st_skip hS (hS.unwanted rfl rfl rfl rfl) rfl fun a hS => st_skip hS (hS.unwanted rfl rfl rfl rfl) rfl fun a hS => st_skip hS (hS.unwanted rfl rfl rfl rfl) rfl fun a hS => st_skip hS (hS.unwanted rfl rfl rfl rfl) rfl fun a hS => st_v hS rfl rfl (run_pick_f hS rfl rfl) fun a hS => st_v hS rfl rfl (run_assign hS rfl) fun a hS => wl_nil ?_
    refine wpIn_ret ?_
    repeat (first | refine q_ret ?_ | refine q_block_ret ?_)
    refine hS.done (res1 (fn := Tryz.f112) (r1 := .tmp 6) rfl (rv_tmp hS rfl)) ?_
    refine vb ?_; simp [liesT, hc1, hc2, hc3]
  ·
   try simp only [ty] at hc2
   refine st_skip hS (hS.unwanted rfl rfl rfl rfl) rfl fun a hS => st_skip hS (hS.unwanted rfl rfl rfl rfl) rfl fun a hS => st_skip hS (hS.unwanted rfl rfl rfl rfl) rfl fun a hS => st_skip hS (hS.unwanted rfl rfl rfl rfl) rfl fun a hS => st_v hS rfl rfl (run_pick_f hS rfl rfl) fun a hS => st_v hS rfl rfl (run_move hS rfl) fun a hS => st_skip hS (hS.unwanted rfl rfl rfl rfl) rfl fun a hS => st_skip hS (hS.unwanted rfl rfl rfl rfl) rfl fun a hS => st_skip hS (hS.unwanted rfl rfl rfl rfl) rfl fun a hS => st_skip hS (hS.unwanted rfl rfl rfl rfl) rfl fun a hS => st_v hS rfl rfl (run_pick_f hS rfl rfl) fun a hS => st_v hS rfl rfl (run_assign hS rfl) fun a hS => wl_nil ?_
   refine wpIn_ret ?_
   repeat (first | refine q_ret ?_ | refine q_block_ret ?_)
   refine hS.done (res1 (fn := Tryz.f112) (r1 := .tmp 6) rfl (rv_tmp hS rfl)) ?_
   refine vb ?_; simp [liesT, hc1, hc2]
 ·
  try simp only [ty] at hc1
  refine st_skip hS (hS.unwanted rfl rfl rfl rfl) rfl fun a hS => st_skip hS (hS.unwanted rfl rfl rfl rfl) rfl fun a hS => st_v hS rfl rfl (run_pick_f hS rfl rfl) fun a hS => st_v hS rfl rfl (run_move hS rfl) fun a hS => st_skip hS (hS.unwanted rfl rfl rfl rfl) rfl fun a hS => st_skip hS (hS.unwanted rfl rfl rfl rfl) rfl fun a hS => st_skip hS (hS.unwanted rfl rfl rfl rfl) rfl fun a hS => st_skip hS (hS.unwanted rfl rfl rfl rfl) rfl fun a hS => st_v hS rfl rfl (run_pick_f hS rfl rfl) fun a hS => st_v hS rfl rfl (run_move hS rfl) fun a hS => st_skip hS (hS.unwanted rfl rfl rfl rfl) rfl fun a hS => st_skip hS (hS.unwanted rfl rfl rfl rfl) rfl fun a hS => st_skip hS (hS.unwanted rfl rfl rfl rfl) rfl fun a hS => st_skip hS (hS.unwanted rfl rfl rfl rfl) rfl fun a hS => st_v hS rfl rfl (run_pick_f hS rfl rfl) fun a hS => st_v hS rfl rfl (run_assign hS rfl) fun a hS => wl_nil ?_
  refine wpIn_ret ?_
  repeat (first | refine q_ret ?_ | refine q_block_ret ?_)
  refine hS.done (res1 (fn := Tryz.f112) (r1 := .tmp 6) rfl (rv_tmp hS rfl)) ?_
  refine vb ?_; simp [liesT, hc1]


set_option maxHeartbeats 2000000 in
set_option maxRecDepth 100000 in
theorem ref02_at  {n : Int} {w : World}   : Ret Tryz.prog 182 [.int .i64 n] w (fun v _ => v = .agg (spanC (one n)).toArray) := by
 refine ret_start (n := 6) Tryz.func182 rfl rfl rfl (fun a hS => ?_)
 refine wpIn_seq ?_
 refine wpIn_region_lit ?_
 refine st_alloc_agg Tryz.zeroValue31 hS rfl rfl fun W a b0 hS => wl_nil ?_
 refine wpIn_seq ?_
 refine wpIn_region_lit ?_
 refine st_v hS rfl rfl (run_move hS rfl) fun a hS => st_v hS rfl rfl (run_move hS rfl) fun a hS => st_v hS rfl rfl (run_build (pv := [(0, .int .i64 _), (1, .int .i64 _)]) (fun W => bd31_0_1 _ _ W) hS rfl) fun a hS => st_store (i := 0) Tryz.sizeOf31 hS rfl rfl rfl rfl rfl rfl rfl rfl rfl fun W a hS => wl_nil ?_
 refine wpIn_ret ?_
 repeat (first | refine q_ret ?_ | refine q_block_ret ?_)
 refine hS.done (res1 (fn := Tryz.f182) (r1 := .cell 2 31) rfl (rv_agg (i := 0) Tryz.isAgg31 Tryz.sizeOf31 hS rfl rfl rfl)) ?_
 rfl


set_option maxHeartbeats 2000000 in
set_option maxRecDepth 100000 in
theorem ref02_up  {n : Int} {d : Int} {w : World}  (hn : 0 ≤ n ∧ n ≤ 4000000000000000000) (hd : 1 ≤ d ∧ d ≤ 4000000000000000000) : Ret Tryz.prog 221 [.int .i64 n, .int .i64 d] w (fun v _ => v = .int .i64 ((n + d - 1) / d)) := by
 refine ret_start (n := 11) Tryz.func221 rfl rfl rfl (fun a hS => ?_)
 refine wpIn_seq ?_
 refine wpIn_region_lit ?_
 refine st_v hS rfl rfl (run_assign hS rfl) fun a hS => wl_nil ?_
 refine wpIn_seq ?_
 refine wpIn_region_lit ?_
 refine st_v hS rfl rfl (run_move hS rfl) fun a hS => st_v hS rfl rfl (run_move hS rfl) fun a hS => st_v hS rfl rfl (run_add (t := n + d) hS rfl rfl (rfl) (by omega) (by omega)) fun a hS => st_v hS rfl rfl (run_sub (t := (n + d) - 1) hS rfl rfl (rfl) (by omega) (by omega)) fun a hS => st_v hS rfl rfl (run_move hS rfl) fun a hS => st_v hS rfl rfl (run_div (t := ((n + d - 1) / d)) hS rfl rfl (by omega) (by exact Int.tdiv_eq_ediv_of_nonneg (by omega)) (by have := Int.ediv_le_self (a := n + d - 1) d (by omega); have := Int.ediv_nonneg (a := n + d - 1) (b := d) (by omega) (by omega); omega)) fun a hS => st_v hS rfl rfl (run_assign hS rfl) fun a hS => wl_nil ?_
 refine wpIn_ret ?_
 repeat (first | refine q_ret ?_ | refine q_block_ret ?_)
 refine hS.done (res1 (fn := Tryz.f221) (r1 := .tmp 4) rfl (rv_tmp hS rfl)) ?_
 rfl


set_option maxHeartbeats 2000000 in
set_option maxRecDepth 100000 in
theorem ref02_bound  (Vt : TV) (t : Tab) (p : Span) (q : Span) {w : World} {Ft : Nat → Prop} (ht : TabR Ft w Vt t) (hok : tabOk t = true) (hp : p.ok = true) (hq : q.ok = true) (hl : liesT t p q = true) : Ret Tryz.prog 113 [.agg (tabC Vt t).toArray, .agg (spanC p).toArray, .agg (spanC q).toArray] w (fun v _ => v = .agg (spanC (bnd t p q)).toArray) := by
 refine ret_start (n := 17) Tryz.func113 rfl rfl rfl (fun a hS => ?_)
 have Ht : ∀ W, Below w.heap.size w W → TabR Ft W Vt t := fun W hb => ht.move (keep_of hb)
 have hmtx := ht.1.len
 have hmty := ht.2.1.len
 have hmtv := ht.2.2.len
 refine wpIn_seq ?_
 refine wpIn_region_lit ?_
 refine st_box_agg hS rfl rfl rfl fun W a b0 hS => st_box_agg hS rfl rfl rfl fun W a b1 hS => st_box_agg hS rfl rfl rfl fun W a b2 hS => st_alloc_agg Tryz.zeroValue31 hS rfl rfl fun W a b3 hS => wl_nil ?_
 refine wpIn_seq ?_
 refine wpIn_region_lit ?_
 refine st_v hS rfl rfl (run_load_all (i := 3) Tryz.isAgg25 Tryz.sizeOf25 hS rfl rfl rfl) fun a hS => st_v hS rfl rfl (run_load_all (i := 2) Tryz.isAgg31 Tryz.sizeOf31 hS rfl rfl rfl) fun a hS => st_v hS rfl rfl (run_load_all (i := 1) Tryz.isAgg31 Tryz.sizeOf31 hS rfl rfl rfl) fun a hS => st_call (ref01_Bound Vt t p q (Ht _ hS.below)) Tryz.call185 hS rfl rfl rfl fun v W a hR hB hlt hS => ?_
 subst hR
 refine st_v hS rfl rfl (run_move hS rfl) fun a hS => st_v hS rfl rfl (run_extract hS rfl rfl) fun a hS => st_v hS rfl rfl (run_extract hS rfl rfl) fun a hS => st_alloc_agg Tryz.zeroValue31 hS rfl rfl fun W a b4 hS => st_store (i := 0) Tryz.sizeOf31 hS rfl rfl rfl rfl rfl rfl rfl rfl rfl fun W a hS => st_v hS rfl rfl (run_assign hS rfl) fun a hS => wl_nil ?_
 refine wpIn_seq ?_
 refine wpIn_region_lit ?_
 refine st_v hS rfl rfl (run_load_all (i := 0) Tryz.isAgg31 Tryz.sizeOf31 hS rfl rfl rfl) fun a hS => st_store (i := 1) Tryz.sizeOf31 hS rfl rfl rfl rfl rfl rfl rfl rfl rfl fun W a hS => wl_nil ?_
 refine wpIn_ret ?_
 repeat (first | refine q_ret ?_ | refine q_block_ret ?_)
 refine hS.done (res1 (fn := Tryz.f113) (r1 := .cell 6 31) rfl (rv_agg (i := 1) Tryz.isAgg31 Tryz.sizeOf31 hS rfl rfl rfl)) ?_
 simp only [hok, hp, hq, hl, Bool.and_self, if_true]; rfl


set_option maxHeartbeats 2000000 in
set_option maxRecDepth 100000 in
theorem ref02_Has  (Vr : RV) (r : Rot) (A : Air) {w : World} {Fr : Nat → Prop} (hr : RotR Fr w Vr r)  : Ret Tryz.prog 180 [.agg (rotC Vr r).toArray, .agg (airC A).toArray] w (fun v _ => v = .tuple #[.agg (spanC (if errC r A (onHas r A) = 0 then hasOf r A else ⟨0, 0⟩)).toArray, .int .i64 (errC r A (onHas r A))]) := by
 refine ret_start (n := 30) Tryz.func180 rfl rfl rfl (fun a hS => ?_)
 have Hr : ∀ W, Below w.heap.size w W → RotR Fr W Vr r := fun W hb => hr.move (keep_of hb)
 refine wpIn_seq ?_
 refine wpIn_region_lit ?_
 refine st_box_agg hS rfl rfl rfl fun W a b0 hS => st_box_agg hS rfl rfl rfl fun W a b1 hS => st_alloc_agg Tryz.zeroValue31 hS rfl rfl fun W a b2 hS => st_v hS rfl rfl (run_assign hS rfl) fun a hS => wl_nil ?_
 refine wpIn_seq ?_
 refine wpIn_region_lit ?_
 refine st_v hS rfl rfl (run_load_all (i := 2) Tryz.isAgg27 Tryz.sizeOf27 hS rfl rfl rfl) fun a hS => st_v hS rfl rfl (run_load_all (i := 1) Tryz.isAgg33 Tryz.sizeOf33 hS rfl rfl rfl) fun a hS => st_call (ref02_CheckAir Vr r A (Hr _ hS.below)) Tryz.call160 hS rfl rfl rfl fun v W a hR hB hlt hS => ?_
 subst hR
 refine st_v hS rfl rfl (run_assign hS rfl) fun a hS => wl_nil ?_
 refine wpIn_seq ?_
 refine wpIn_seq ?_
 refine wpIn_region_lit ?_
 refine st_v hS rfl rfl (run_move hS rfl) fun a hS => st_v hS rfl rfl (run_bin hS rfl rfl rfl) fun a hS => wl_nil ?_
 refine st_cond hS rfl (fun hc1 => ?_) (fun hc1 => ?_)
 ·
  try simp only [ty] at hc1
  refine wpIn_seq ?_
  refine wpIn_region_lit ?_
  refine st_v hS rfl rfl (run_build (pv := []) (fun W => bd31_ W) hS rfl) fun a hS => st_v hS rfl rfl (run_move hS rfl) fun a hS => st_store (i := 0) Tryz.sizeOf31 hS rfl rfl rfl rfl rfl rfl rfl rfl rfl fun W a hS => st_v hS rfl rfl (run_assign hS rfl) fun a hS => wl_nil ?_
  refine wpIn_ret ?_
  repeat (first | refine q_ret ?_ | refine q_block_ret ?_)
  refine hS.done (res2 (fn := Tryz.f180) (r1 := .cell 4 31) (r2 := .tmp 5) rfl (rv_agg (i := 0) Tryz.isAgg31 Tryz.sizeOf31 hS rfl rfl rfl) (rv_tmp hS rfl)) ?_
  have hE : errC r A (onHas r A) = errC r A true := errC_t hc1
  exact t2s (p := ⟨0, 0⟩) (by rw [hE, if_neg hc1]) hE.symm
 ·
  try simp only [ty] at hc1
  obtain ⟨hrok, haok, _⟩ := errC_ok hc1
  obtain ⟨hA1, hA2, hA3, hA4⟩ := (airOk_iff A).1 haok
  have hRp := rot_p hrok
  refine wpIn_skip ?_
  refine wpIn_seq ?_
  refine wpIn_seq ?_
  refine wpIn_region_lit ?_
  refine st_v hS rfl rfl (run_fieldAddr fa27_3 hS rfl) fun a hS => st_v hS rfl rfl (run_load_agg (i := 2) (vs := [_, _, _]) Tryz.isAgg25 Tryz.sizeOf25 hS rfl rfl rfl ⟨rfl, rfl, rfl, trivial⟩) fun a hS => st_v hS rfl rfl (run_fieldAddr fa33_1 hS rfl) fun a hS => st_v hS rfl rfl (run_load_agg (i := 1) (vs := [_, _]) Tryz.isAgg31 Tryz.sizeOf31 hS rfl rfl rfl ⟨rfl, rfl, trivial⟩) fun a hS => st_v hS rfl rfl (run_fieldAddr fa33_2 hS rfl) fun a hS => st_v hS rfl rfl (run_load_agg (i := 1) (vs := [_, _]) Tryz.isAgg31 Tryz.sizeOf31 hS rfl rfl rfl ⟨rfl, rfl, trivial⟩) fun a hS => st_call (ref02_lies Vr.power r.power A.temp A.height ((fun W hC => (Hr W hC).power) _ hS.below) (by exact hRp.power.1)) Tryz.call112 hS rfl rfl rfl fun v W a hR hB hlt hS => ?_
  subst hR
  refine st_v hS rfl rfl (run_not hS rfl) fun a hS => wl_nil ?_
  refine st_cond hS rfl (fun hc2 => ?_) (fun hc2 => ?_)
  ·
   try simp only [ty] at hc2
   refine wpIn_seq ?_
   refine wpIn_region_lit ?_
   refine st_v hS rfl rfl (run_build (pv := []) (fun W => bd31_ W) hS rfl) fun a hS => st_store (i := 0) Tryz.sizeOf31 hS rfl rfl rfl rfl rfl rfl rfl rfl rfl fun W a hS => st_v hS rfl rfl (run_assign hS rfl) fun a hS => wl_nil ?_
   refine wpIn_ret ?_
   repeat (first | refine q_ret ?_ | refine q_block_ret ?_)
   refine hS.done (res2 (fn := Tryz.f180) (r1 := .cell 4 31) (r2 := .tmp 5) rfl (rv_agg (i := 0) Tryz.isAgg31 Tryz.sizeOf31 hS rfl rfl rfl) (rv_tmp hS rfl)) ?_
   have hf : onHas r A = false := by
     revert hc2
     unfold onHas
     cases liesT r.power A.temp A.height <;> simp [hA1, hA2, hA3, hA4]
   have hE : errC r A (onHas r A) = 1 := errC_tf hrok haok hf
   exact t2s (p := ⟨0, 0⟩) (by rw [hE]; rfl) hE.symm
  ·
   try simp only [ty] at hc2
   have ht : onHas r A = true := by
     revert hc2
     unfold onHas
     cases liesT r.power A.temp A.height <;> simp [hA1, hA2, hA3, hA4]
   refine wpIn_skip ?_
   refine wpIn_seq ?_
   refine wpIn_region_lit ?_
   refine st_v hS rfl rfl (run_fieldAddr fa27_3 hS rfl) fun a hS => st_v hS rfl rfl (run_load_agg (i := 2) (vs := [_, _, _]) Tryz.isAgg25 Tryz.sizeOf25 hS rfl rfl rfl ⟨rfl, rfl, rfl, trivial⟩) fun a hS => st_v hS rfl rfl (run_fieldAddr fa33_1 hS rfl) fun a hS => st_v hS rfl rfl (run_load_agg (i := 1) (vs := [_, _]) Tryz.isAgg31 Tryz.sizeOf31 hS rfl rfl rfl ⟨rfl, rfl, trivial⟩) fun a hS => st_v hS rfl rfl (run_fieldAddr fa33_2 hS rfl) fun a hS => st_v hS rfl rfl (run_load_agg (i := 1) (vs := [_, _]) Tryz.isAgg31 Tryz.sizeOf31 hS rfl rfl rfl ⟨rfl, rfl, trivial⟩) fun a hS => st_call (ref02_bound Vr.power r.power A.temp A.height ((fun W hC => (Hr W hC).power) _ hS.below) (by exact hRp.power.1) (by exact hA2) (by exact hA3) (by exact ht)) Tryz.call113 hS rfl rfl rfl fun v W a hR hB hlt hS => ?_
   subst hR
   refine st_store (i := 0) Tryz.sizeOf31 hS rfl rfl rfl rfl rfl rfl rfl rfl rfl fun W a hS => st_v hS rfl rfl (run_assign hS rfl) fun a hS => wl_nil ?_
   refine wpIn_ret ?_
   repeat (first | refine q_ret ?_ | refine q_block_ret ?_)
   refine hS.done (res2 (fn := Tryz.f180) (r1 := .cell 4 31) (r2 := .tmp 5) rfl (rv_agg (i := 0) Tryz.isAgg31 Tryz.sizeOf31 hS rfl rfl rfl) (rv_tmp hS rfl)) ?_
   have hE : errC r A (onHas r A) = 0 := errC_tt hrok haok ht
   exact t2s (p := hasOf r A) (by rw [hE]; rfl) hE.symm

end Go.Proofs.YtdnodlgebpnfoaaGreat
