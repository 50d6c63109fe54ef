/- What the proof of EngineRates leans on, part 4: plain mathematics, the engine of the walks, the walks. -/
import Derived.Test.YtdnodlgebpnfoaaGreatK3EngineRates
set_option linter.unusedVariables false
set_option linter.unusedSimpArgs false
set_option linter.unnecessarySimpa false
namespace Go.Proofs.YtdnodlgebpnfoaaGreat
open Go Go.RowKit Go.Shelf Sw
set_option maxHeartbeats 2000000 in
set_option maxRecDepth 100000 in
theorem rotor_hs1 {Vr : RV} {r : Rot} {A : Air}  {Fr : Nat → Prop} (pc0 : Addr) {w : World} (hc0 : CellsAt w pc0 (machC Vr r A)) (hrr : RotR Fr w Vr r) : Ret Tryz.prog 93 [.pointer (some pc0)] w (fun v W' => ∃ s : SV, v = .slice s.a (([⟨Vr.power, r.power, A.temp, A.height⟩] : List LookV)).length s.c ∧ Sl kLook (fun k => w.heap.size ≤ k) W' s ([⟨Vr.power, r.power, A.temp, A.height⟩] : List LookV)) := by
 refine ret_start (n := 5) Tryz.func93 rfl rfl rfl (fun a hS => ?_)
 have Hc0 : ∀ W, Below w.heap.size w W → CellsAt W pc0 (machC Vr r A) := fun W hb => hc0.at_ hb
 have Hr : ∀ W, Below w.heap.size w W → RotR Fr W Vr r := fun W hb => hrr.move (keep_of hb)
 refine wpIn_seq ?_
 refine wpIn_region_lit ?_
 refine st_v hS rfl rfl (run_assign hS rfl) fun a hS => wl_nil ?_
 refine wpIn_seq ?_
 refine wpIn_region_lit ?_
 refine st_v hS rfl rfl (run_load_ext Tryz.isAgg118 Tryz.sizeOf118 hS rfl rfl (Hc0 _ hS.below)) fun a hS => st_call (mach_power Vr r A (Hr _ hS.below)) Tryz.call94 hS rfl rfl rfl fun v W a hR hB hlt hS => ?_
 subst hR
 refine st_buildSlice (pv := [(0, .agg #[.slice _ _ _, .slice _ _ _, .slice _ _ _, .int .i64 _, .int .i64 _, .int .i64 _, .int .i64 _])]) (fun W => bs120_1_0 _ _ _ _ _ _ _ _ _ _ _ _ _ W) hS rfl rfl rfl fun W a b0 hS => st_v hS rfl rfl (run_assign hS rfl) fun a hS => wl_nil ?_
 refine wpIn_ret ?_
 repeat (first | refine q_ret ?_ | refine q_block_ret ?_)
 refine hS.done (res1 (fn := Tryz.f93) (r1 := .tmp 1) rfl (rv_tmp hS rfl)) ?_
 exact ⟨⟨some ⟨b0, 0, none⟩, 1⟩, rfl, own_new (enc := lookC) (nn := 7) (bb := 104) (hb := by decide) (hl := fun _ => rfl) ([⟨Vr.power, r.power, A.temp, A.height⟩] : List LookV) hS (i := 0) rfl rfl (Nat.le_of_ble_eq_true rfl)⟩
set_option maxHeartbeats 2000000 in
set_option maxRecDepth 100000 in
theorem rotor_Has  (Vr : RV) (r : Rot) (A : Air) {w : World} {Fr : Nat → Prop} (hr : RotR Fr w Vr r)  : Ret Tryz.prog 29 [.agg (rotC Vr r).toArray, .agg (airC A).toArray] w (fun v _ => v = .tuple #[.agg (spanC (if errC r A (onHas r A) = 0 then hasOf r A else ⟨0, 0⟩)).toArray, .int .i64 (errC r A (onHas r A))]) := by
 refine ret_start (n := 22) Tryz.func29 rfl rfl rfl (fun a hS => ?_)
 have Hr : ∀ W, Below w.heap.size w W → RotR Fr W Vr r := fun W hb => hr.move (keep_of hb)
 refine wpIn_seq ?_
 refine wpIn_region_lit ?_
 refine st_box_agg hS rfl rfl rfl fun W a b0 hS => st_box_agg hS rfl rfl rfl fun W a b1 hS => st_alloc_agg Tryz.zeroValue31 hS rfl rfl fun W a b2 hS => st_v hS rfl rfl (run_assign hS rfl) fun a hS => wl_nil ?_
 refine wpIn_seq ?_
 refine wpIn_region_lit ?_
 refine st_v hS rfl rfl (run_load_all (i := 2) Tryz.isAgg27 Tryz.sizeOf27 hS rfl rfl rfl) fun a hS => st_v hS rfl rfl (run_load_all (i := 1) Tryz.isAgg33 Tryz.sizeOf33 hS rfl rfl rfl) fun a hS => st_v hS rfl rfl (run_build (pv := [(0, .agg #[.slice _ _ _, .slice _ _ _, .slice _ _ _, .slice _ _ _, .slice _ _ _, .slice _ _ _, .slice _ _ _, .slice _ _ _, .slice _ _ _, .slice _ _ _, .slice _ _ _, .slice _ _ _, .slice _ _ _, .slice _ _ _, .slice _ _ _, .slice _ _ _, .slice _ _ _, .slice _ _ _, .slice _ _ _, .slice _ _ _, .slice _ _ _, .slice _ _ _, .slice _ _ _, .slice _ _ _, .int .i64 _, .int .i64 _]), (1, .agg #[.int .i64 _, .int .i64 _, .int .i64 _, .int .i64 _, .int .i64 _, .int .i64 _, .int .i64 _, .int .i64 _])]) (fun W => bd118_0_1 _ _ _ _ _ _ _ _ _ _ _ _ _ _ _ _ _ _ _ _ _ _ _ _ _ _ _ _ _ _ _ _ _ _ _ _ _ _ _ _ _ _ _ _ _ _ _ _ _ _ _ _ _ _ _ _ _ _ _ _ _ _ _ _ _ _ _ _ _ _ _ _ _ _ _ _ _ _ _ _ _ _ W) hS rfl) fun a hS => st_alloc_agg Tryz.zeroValue118 hS rfl rfl fun W a b3 hS => st_store (cs' := [.slice Vr.hover.x.a r.hover.X.length Vr.hover.x.c, .slice Vr.hover.y.a r.hover.Y.length Vr.hover.y.c, .slice Vr.hover.v.a r.hover.V.length Vr.hover.v.c, .slice Vr.ground.x.a r.ground.X.length Vr.ground.x.c, .slice Vr.ground.y.a r.ground.Y.length Vr.ground.y.c, .slice Vr.ground.v.a r.ground.V.length Vr.ground.v.c, .slice Vr.level.x.a r.level.X.length Vr.level.x.c, .slice Vr.level.y.a r.level.Y.length Vr.level.y.c, .slice Vr.level.v.a r.level.V.length Vr.level.v.c, .slice Vr.power.x.a r.power.X.length Vr.power.x.c, .slice Vr.power.y.a r.power.Y.length Vr.power.y.c, .slice Vr.power.v.a r.power.V.length Vr.power.v.c, .slice Vr.never.x.a r.never.X.length Vr.never.x.c, .slice Vr.never.y.a r.never.Y.length Vr.never.y.c, .slice Vr.never.v.a r.never.V.length Vr.never.v.c, .slice Vr.low.x.a r.low.X.length Vr.low.x.c, .slice Vr.low.y.a r.low.Y.length Vr.low.y.c, .slice Vr.low.v.a r.low.V.length Vr.low.v.c, .slice Vr.high.x.a r.high.X.length Vr.high.x.c, .slice Vr.high.y.a r.high.Y.length Vr.high.y.c, .slice Vr.high.v.a r.high.V.length Vr.high.v.c, .slice Vr.glide.x.a r.glide.X.length Vr.glide.x.c, .slice Vr.glide.y.a r.glide.Y.length Vr.glide.y.c, .slice Vr.glide.v.a r.glide.V.length Vr.glide.v.c, .int .i64 r.climb, .int .i64 r.burn, .int .i64 A.weight.lo, .int .i64 A.weight.hi, .int .i64 A.temp.lo, .int .i64 A.temp.hi, .int .i64 A.height.lo, .int .i64 A.height.hi, .int .i64 A.wind.lo, .int .i64 A.wind.hi]) (i := 0) Tryz.sizeOf118 hS rfl rfl rfl rfl rfl rfl rfl rfl rfl fun W a hS => wl_nil ?_
 refine wpIn_seq ?_
 refine wpIn_seq ?_
 refine wpIn_region_lit ?_
 refine st_v hS rfl rfl (run_load_all (i := 3) Tryz.isAgg27 Tryz.sizeOf27 hS rfl rfl rfl) fun a hS => st_v hS rfl rfl (run_load_all (i := 2) Tryz.isAgg33 Tryz.sizeOf33 hS rfl rfl rfl) fun a hS => st_v hS rfl rfl (run_makeFunc hS rfl rfl) fun a hS => st_call (rotor_check Vr r A (⟨none, 0⟩ : SV) [] 93 [.pointer (some ⟨b3, 0, none⟩)] ([⟨Vr.power, r.power, A.temp, A.height⟩] : List LookV) (Hr _ hS.below) (sl_nil kSpan (fun _ => True) _) Tryz.call93 (fun W' hb _ => rotor_hs1 _ (hS.cells (i := 0) rfl _ hb) (hr.move (keep_of (hS.below.trans (hb.mono hS.below.size))))) (fun hrok x hx => by
   have hRp := rot_p hrok
   have hr' := Hr _ hS.below
   simp only [List.mem_cons, List.not_mem_nil, or_false] at hx
   subst hx
   exact ⟨hr'.power, hRp.power.1⟩)) Tryz.call77 hS rfl rfl rfl fun v W a hR hB hlt hS => ?_
 rw [show errC r A (([] : List Span).all Span.ok && ([⟨Vr.power, r.power, A.temp, A.height⟩] : List LookV).all fun x => liesT x.t x.p x.q) = errC r A (onHas r A) from errC_congr fun hrok => by
   have hRp := rot_p hrok
   simp [onHas]] at hR
 subst hR
 refine st_v hS rfl rfl (run_assign hS rfl) fun a hS => wl_nil ?_
 refine wpIn_seq ?_
 refine wpIn_region_lit ?_
 refine st_v hS rfl rfl (run_move hS rfl) fun a hS => st_v hS rfl rfl (run_bin hS rfl rfl rfl) fun a hS => wl_nil ?_
 refine st_cond hS rfl (fun hc1 => ?_) (fun hc1 => ?_)
 ·
  try simp only [ty] at hc1
  refine wpIn_seq ?_
  refine wpIn_region_lit ?_
  refine st_v hS rfl rfl (run_build (pv := []) (fun W => bd31_ W) hS rfl) fun a hS => st_v hS rfl rfl (run_move hS rfl) fun a hS => st_store (i := 1) Tryz.sizeOf31 hS rfl rfl rfl rfl rfl rfl rfl rfl rfl fun W a hS => st_v hS rfl rfl (run_assign hS rfl) fun a hS => wl_nil ?_
  refine wpIn_ret ?_
  repeat (first | refine q_ret ?_ | refine q_block_ret ?_)
  refine hS.done (res2 (fn := Tryz.f29) (r1 := .cell 4 31) (r2 := .tmp 5) rfl (rv_agg (i := 1) Tryz.isAgg31 Tryz.sizeOf31 hS rfl rfl rfl) (rv_tmp hS rfl)) ?_
  exact t2s (p := ⟨0, 0⟩) (by rw [if_neg hc1]) rfl
 ·
  try simp only [ty] at hc1
  obtain ⟨hrok, haok, hon⟩ := errC_ok hc1
  obtain ⟨hA1, hA2, hA3, hA4⟩ := (airOk_iff A).1 haok
  have hRp := rot_p hrok
  refine wpIn_skip ?_
  refine wpIn_seq ?_
  refine wpIn_region_lit ?_
  refine st_v hS rfl rfl (run_load_all (i := 0) Tryz.isAgg118 Tryz.sizeOf118 hS rfl rfl rfl) fun a hS => st_call (mach_power Vr r A (Hr _ hS.below)) Tryz.call94 hS rfl rfl rfl fun v W a hR hB hlt hS => ?_
  subst hR
  refine st_call (rotor_bound (⟨Vr.power, r.power, A.temp, A.height⟩ : LookV) ((fun W hC => (Hr W hC).power) _ hS.below) (by exact hRp.power.1) (by exact hA2) (by exact hA3) (by exact hon)) Tryz.call95 hS rfl rfl rfl fun v W a hR hB hlt hS => ?_
  subst hR
  refine st_store (i := 1) Tryz.sizeOf31 hS rfl rfl rfl rfl rfl rfl rfl rfl rfl fun W a hS => st_v hS rfl rfl (run_assign hS rfl) fun a hS => wl_nil ?_
  refine wpIn_ret ?_
  repeat (first | refine q_ret ?_ | refine q_block_ret ?_)
  refine hS.done (res2 (fn := Tryz.f29) (r1 := .cell 4 31) (r2 := .tmp 5) rfl (rv_agg (i := 1) Tryz.isAgg31 Tryz.sizeOf31 hS rfl rfl rfl) (rv_tmp hS rfl)) ?_
  exact t2s (p := hasOf r A) (by rw [if_pos hc1]) hc1.symm
set_option maxHeartbeats 2000000 in
set_option maxRecDepth 100000 in
theorem rotor_cl1 {Vr : RV} {r : Rot} {A : Air} {p : Span} {Fr : Nat → Prop} (pc0 : Addr) (pc1 : Addr) {w : World} (hc0 : CellsAt w pc0 (machC Vr r A)) (hc1 : CellsAt w pc1 (spanC p)) (hrr : RotR Fr w Vr r) : Ret Tryz.prog 243 [.pointer (some pc0), .pointer (some pc1)] w (fun v W' => ∃ s : SV, v = .slice s.a (([⟨Vr.level, r.level, p, A.weight⟩] : List LookV)).length s.c ∧ Sl kLook (fun k => w.heap.size ≤ k) W' s ([⟨Vr.level, r.level, p, A.weight⟩] : List LookV)) := by
 refine ret_start (n := 7) Tryz.func243 rfl rfl rfl (fun a hS => ?_)
 have Hc0 : ∀ W, Below w.heap.size w W → CellsAt W pc0 (machC Vr r A) := fun W hb => hc0.at_ hb
 have Hc1 : ∀ W, Below w.heap.size w W → CellsAt W pc1 (spanC p) := fun W hb => hc1.at_ hb
 have Hr : ∀ W, Below w.heap.size w W → RotR Fr W Vr r := fun W hb => hrr.move (keep_of hb)
 refine wpIn_seq ?_
 refine wpIn_region_lit ?_
 refine st_v hS rfl rfl (run_assign hS rfl) fun a hS => wl_nil ?_
 refine wpIn_seq ?_
 refine wpIn_region_lit ?_
 refine st_v hS rfl rfl (run_load_ext Tryz.isAgg118 Tryz.sizeOf118 hS rfl rfl (Hc0 _ hS.below)) fun a hS => st_v hS rfl rfl (run_load_ext Tryz.isAgg31 Tryz.sizeOf31 hS rfl rfl (Hc1 _ hS.below)) fun a hS => st_call (mach_level Vr r A p (Hr _ hS.below)) Tryz.call115 hS rfl rfl rfl fun v W a hR hB hlt hS => ?_
 subst hR
 refine st_buildSlice (pv := [(0, .agg #[.slice _ _ _, .slice _ _ _, .slice _ _ _, .int .i64 _, .int .i64 _, .int .i64 _, .int .i64 _])]) (fun W => bs120_1_0 _ _ _ _ _ _ _ _ _ _ _ _ _ W) hS rfl rfl rfl fun W a b0 hS => st_v hS rfl rfl (run_assign hS rfl) fun a hS => wl_nil ?_
 refine wpIn_ret ?_
 repeat (first | refine q_ret ?_ | refine q_block_ret ?_)
 refine hS.done (res1 (fn := Tryz.f243) (r1 := .tmp 2) rfl (rv_tmp hS rfl)) ?_
 exact ⟨⟨some ⟨b0, 0, none⟩, 1⟩, rfl, own_new (enc := lookC) (nn := 7) (bb := 104) (hb := by decide) (hl := fun _ => rfl) ([⟨Vr.level, r.level, p, A.weight⟩] : List LookV) hS (i := 0) rfl rfl (Nat.le_of_ble_eq_true rfl)⟩
set_option maxHeartbeats 2000000 in
set_option maxRecDepth 100000 in
theorem rotor_checkLevel  (Vr : RV) (r : Rot) (A : Air) (p : Span) {w : World} {Fr : Nat → Prop} (hr : RotR Fr w Vr r)  : Ret Tryz.prog 214 [.agg (machC Vr r A).toArray, .agg (spanC p).toArray] w (fun v _ => v = .int .i64 (errC r A (onLevel r A p))) := by
 refine ret_start (n := 13) Tryz.func214 rfl rfl rfl (fun a hS => ?_)
 have Hr : ∀ W, Below w.heap.size w W → RotR Fr W Vr r := fun W hb => hr.move (keep_of hb)
 refine wpIn_seq ?_
 refine wpIn_region_lit ?_
 refine st_box_agg hS rfl rfl rfl fun W a b0 hS => st_box_agg hS rfl rfl rfl fun W a b1 hS => st_v hS rfl rfl (run_assign hS rfl) fun a hS => wl_nil ?_
 refine wpIn_seq ?_
 refine wpIn_region_lit ?_
 refine st_v hS rfl rfl (run_fieldAddr fa118_0 hS rfl) fun a hS => st_v hS rfl rfl (run_load_agg (i := 1) (vs := [_, _, _, _, _, _, _, _, _, _, _, _, _, _, _, _, _, _, _, _, _, _, _, _, _, _]) Tryz.isAgg27 Tryz.sizeOf27 hS rfl rfl rfl ⟨rfl, rfl, rfl, rfl, rfl, rfl, rfl, rfl, rfl, rfl, rfl, rfl, rfl, rfl, rfl, rfl, rfl, rfl, rfl, rfl, rfl, rfl, rfl, rfl, rfl, rfl, trivial⟩) fun a hS => st_v hS rfl rfl (run_fieldAddr fa118_1 hS rfl) fun a hS => st_v hS rfl rfl (run_load_agg (i := 1) (vs := [_, _, _, _, _, _, _, _]) Tryz.isAgg33 Tryz.sizeOf33 hS rfl rfl rfl ⟨rfl, rfl, rfl, rfl, rfl, rfl, rfl, rfl, trivial⟩) fun a hS => st_v hS rfl rfl (run_load_all (i := 0) Tryz.isAgg31 Tryz.sizeOf31 hS rfl rfl rfl) fun a hS => st_buildSlice (pv := [(0, .agg #[.int .i64 _, .int .i64 _])]) (fun W => bs61_1_0 _ _ W) hS rfl rfl rfl fun W a b2 hS => st_v hS rfl rfl (run_makeFunc hS rfl rfl) fun a hS => st_call (rotor_check Vr r A (⟨some ⟨b2, 0, none⟩, 1⟩ : SV) [p] 243 [.pointer (some ⟨b0, 0, none⟩), .pointer (some ⟨b1, 0, none⟩)] ([⟨Vr.level, r.level, p, A.weight⟩] : List LookV) (Hr _ hS.below) (own_sl_of (dk := kSpan) (enc := spanC) (xs := [p]) (fun _ _ _ => rfl) hS (i := 0) rfl (Nat.le_of_ble_eq_true rfl)) Tryz.call243 (fun W' hb _ => rotor_cl1 _ _ (hS.cells (i := 2) rfl _ hb) (hS.cells (i := 1) rfl _ hb) (hr.move (keep_of (hS.below.trans (hb.mono hS.below.size))))) (fun hrok x hx => by
   have hRp := rot_p hrok
   have hr' := Hr _ hS.below
   simp only [List.mem_cons, List.not_mem_nil, or_false] at hx
   subst hx
   exact ⟨hr'.level, hRp.level.1⟩)) Tryz.call77 hS rfl rfl rfl fun v W a hR hB hlt hS => ?_
 rw [show errC r A (([p] : List Span).all Span.ok && ([⟨Vr.level, r.level, p, A.weight⟩] : List LookV).all fun x => liesT x.t x.p x.q) = errC r A (onLevel r A p) from errC_congr fun hrok => by
   have hRp := rot_p hrok
   simp [onLevel]] at hR
 subst hR
 refine st_v hS rfl rfl (run_assign hS rfl) fun a hS => wl_nil ?_
 refine wpIn_ret ?_
 repeat (first | refine q_ret ?_ | refine q_block_ret ?_)
 refine hS.done (res1 (fn := Tryz.f214) (r1 := .tmp 4) rfl (rv_tmp hS rfl)) ?_
 rfl
set_option maxHeartbeats 2000000 in
set_option maxRecDepth 100000 in
theorem rotor_Level  (Vr : RV) (r : Rot) (A : Air) (p : Span) {w : World} {Fr : Nat → Prop} (hr : RotR Fr w Vr r)  : Ret Tryz.prog 169 [.agg (rotC Vr r).toArray, .agg (airC A).toArray, .agg (spanC p).toArray] w (fun v _ => v = .tuple #[.agg (spanC (if errC r A (onLevel r A p) = 0 then levelOf r A p else ⟨0, 0⟩)).toArray, .int .i64 (errC r A (onLevel r A p))]) := by
 refine ret_start (n := 24) Tryz.func169 rfl rfl rfl (fun a hS => ?_)
 have Hr : ∀ W, Below w.heap.size w W → RotR Fr W Vr r := fun W hb => hr.move (keep_of hb)
 refine wpIn_seq ?_
 refine wpIn_region_lit ?_
 refine st_box_agg hS rfl rfl rfl fun W a b0 hS => st_box_agg hS rfl rfl rfl fun W a b1 hS => st_box_agg hS rfl rfl rfl fun W a b2 hS => st_alloc_agg Tryz.zeroValue31 hS rfl rfl fun W a b3 hS => st_v hS rfl rfl (run_assign hS rfl) fun a hS => wl_nil ?_
 refine wpIn_seq ?_
 refine wpIn_region_lit ?_
 refine st_v hS rfl rfl (run_load_all (i := 3) Tryz.isAgg27 Tryz.sizeOf27 hS rfl rfl rfl) fun a hS => st_v hS rfl rfl (run_load_all (i := 2) Tryz.isAgg33 Tryz.sizeOf33 hS rfl rfl rfl) fun a hS => st_v hS rfl rfl (run_build (pv := [(0, .agg #[.slice _ _ _, .slice _ _ _, .slice _ _ _, .slice _ _ _, .slice _ _ _, .slice _ _ _, .slice _ _ _, .slice _ _ _, .slice _ _ _, .slice _ _ _, .slice _ _ _, .slice _ _ _, .slice _ _ _, .slice _ _ _, .slice _ _ _, .slice _ _ _, .slice _ _ _, .slice _ _ _, .slice _ _ _, .slice _ _ _, .slice _ _ _, .slice _ _ _, .slice _ _ _, .slice _ _ _, .int .i64 _, .int .i64 _]), (1, .agg #[.int .i64 _, .int .i64 _, .int .i64 _, .int .i64 _, .int .i64 _, .int .i64 _, .int .i64 _, .int .i64 _])]) (fun W => bd118_0_1 _ _ _ _ _ _ _ _ _ _ _ _ _ _ _ _ _ _ _ _ _ _ _ _ _ _ _ _ _ _ _ _ _ _ _ _ _ _ _ _ _ _ _ _ _ _ _ _ _ _ _ _ _ _ _ _ _ _ _ _ _ _ _ _ _ _ _ _ _ _ _ _ _ _ _ _ _ _ _ _ _ _ W) hS rfl) fun a hS => st_alloc_agg Tryz.zeroValue118 hS rfl rfl fun W a b4 hS => st_store (cs' := [.slice Vr.hover.x.a r.hover.X.length Vr.hover.x.c, .slice Vr.hover.y.a r.hover.Y.length Vr.hover.y.c, .slice Vr.hover.v.a r.hover.V.length Vr.hover.v.c, .slice Vr.ground.x.a r.ground.X.length Vr.ground.x.c, .slice Vr.ground.y.a r.ground.Y.length Vr.ground.y.c, .slice Vr.ground.v.a r.ground.V.length Vr.ground.v.c, .slice Vr.level.x.a r.level.X.length Vr.level.x.c, .slice Vr.level.y.a r.level.Y.length Vr.level.y.c, .slice Vr.level.v.a r.level.V.length Vr.level.v.c, .slice Vr.power.x.a r.power.X.length Vr.power.x.c, .slice Vr.power.y.a r.power.Y.length Vr.power.y.c, .slice Vr.power.v.a r.power.V.length Vr.power.v.c, .slice Vr.never.x.a r.never.X.length Vr.never.x.c, .slice Vr.never.y.a r.never.Y.length Vr.never.y.c, .slice Vr.never.v.a r.never.V.length Vr.never.v.c, .slice Vr.low.x.a r.low.X.length Vr.low.x.c, .slice Vr.low.y.a r.low.Y.length Vr.low.y.c, .slice Vr.low.v.a r.low.V.length Vr.low.v.c, .slice Vr.high.x.a r.high.X.length Vr.high.x.c, .slice Vr.high.y.a r.high.Y.length Vr.high.y.c, .slice Vr.high.v.a r.high.V.length Vr.high.v.c, .slice Vr.glide.x.a r.glide.X.length Vr.glide.x.c, .slice Vr.glide.y.a r.glide.Y.length Vr.glide.y.c, .slice Vr.glide.v.a r.glide.V.length Vr.glide.v.c, .int .i64 r.climb, .int .i64 r.burn, .int .i64 A.weight.lo, .int .i64 A.weight.hi, .int .i64 A.temp.lo, .int .i64 A.temp.hi, .int .i64 A.height.lo, .int .i64 A.height.hi, .int .i64 A.wind.lo, .int .i64 A.wind.hi]) (i := 0) Tryz.sizeOf118 hS rfl rfl rfl rfl rfl rfl rfl rfl rfl fun W a hS => wl_nil ?_
 refine wpIn_seq ?_
 refine wpIn_seq ?_
 refine wpIn_region_lit ?_
 refine st_v hS rfl rfl (run_load_all (i := 0) Tryz.isAgg118 Tryz.sizeOf118 hS rfl rfl rfl) fun a hS => st_v hS rfl rfl (run_load_all (i := 2) Tryz.isAgg31 Tryz.sizeOf31 hS rfl rfl rfl) fun a hS => st_call (rotor_checkLevel Vr r A p (Hr _ hS.below)) Tryz.call214 hS rfl rfl rfl fun v W a hR hB hlt hS => ?_
 subst hR
 refine st_v hS rfl rfl (run_assign hS rfl) fun a hS => wl_nil ?_
 refine wpIn_seq ?_
 refine wpIn_region_lit ?_
 refine st_v hS rfl rfl (run_move hS rfl) fun a hS => st_v hS rfl rfl (run_bin hS rfl rfl rfl) fun a hS => wl_nil ?_
 refine st_cond hS rfl (fun hc1 => ?_) (fun hc1 => ?_)
 ·
  try simp only [ty] at hc1
  refine wpIn_seq ?_
  refine wpIn_region_lit ?_
  refine st_v hS rfl rfl (run_build (pv := []) (fun W => bd31_ W) hS rfl) fun a hS => st_v hS rfl rfl (run_move hS rfl) fun a hS => st_store (i := 1) Tryz.sizeOf31 hS rfl rfl rfl rfl rfl rfl rfl rfl rfl fun W a hS => st_v hS rfl rfl (run_assign hS rfl) fun a hS => wl_nil ?_
  refine wpIn_ret ?_
  repeat (first | refine q_ret ?_ | refine q_block_ret ?_)
  refine hS.done (res2 (fn := Tryz.f169) (r1 := .cell 6 31) (r2 := .tmp 7) rfl (rv_agg (i := 1) Tryz.isAgg31 Tryz.sizeOf31 hS rfl rfl rfl) (rv_tmp hS rfl)) ?_
  exact t2s (p := ⟨0, 0⟩) (by rw [if_neg hc1]) rfl
 ·
  try simp only [ty] at hc1
  obtain ⟨hrok, haok, hon⟩ := errC_ok hc1
  obtain ⟨hA1, hA2, hA3, hA4⟩ := (airOk_iff A).1 haok
  have hRp := rot_p hrok
  have hon2 := hon
  simp only [onLevel, Bool.and_eq_true] at hon2
  refine wpIn_skip ?_
  refine wpIn_seq ?_
  refine wpIn_region_lit ?_
  refine st_v hS rfl rfl (run_load_all (i := 0) Tryz.isAgg118 Tryz.sizeOf118 hS rfl rfl rfl) fun a hS => st_v hS rfl rfl (run_load_all (i := 2) Tryz.isAgg31 Tryz.sizeOf31 hS rfl rfl rfl) fun a hS => st_call (mach_level Vr r A p (Hr _ hS.below)) Tryz.call115 hS rfl rfl rfl fun v W a hR hB hlt hS => ?_
  subst hR
  refine st_call (rotor_bound (⟨Vr.level, r.level, p, A.weight⟩ : LookV) ((fun W hC => (Hr W hC).level) _ hS.below) (by exact hRp.level.1) (by exact hon2.1) (by exact hA1) (by exact hon2.2)) Tryz.call95 hS rfl rfl rfl fun v W a hR hB hlt hS => ?_
  subst hR
  refine st_store (i := 1) Tryz.sizeOf31 hS rfl rfl rfl rfl rfl rfl rfl rfl rfl fun W a hS => st_v hS rfl rfl (run_assign hS rfl) fun a hS => wl_nil ?_
  refine wpIn_ret ?_
  repeat (first | refine q_ret ?_ | refine q_block_ret ?_)
  refine hS.done (res2 (fn := Tryz.f169) (r1 := .cell 6 31) (r2 := .tmp 7) rfl (rv_agg (i := 1) Tryz.isAgg31 Tryz.sizeOf31 hS rfl rfl rfl) (rv_tmp hS rfl)) ?_
  exact t2s (p := levelOf r A p) (by rw [if_pos hc1]) hc1.symm
set_option maxHeartbeats 2000000 in
set_option maxRecDepth 100000 in
theorem ref01_Part  (p : Span) {n : Int} {d : Int} {w : World}   : Ret Tryz.prog 195 [.agg (spanC p).toArray, .int .i64 n, .int .i64 d] w (fun v _ => v = .tuple #[.agg (spanC (if partE p n d = 0 then partOf p n d else ⟨0, 0⟩)).toArray, .int .i64 (partE p n d)]) := by
 refine ret_start (n := 37) Tryz.func195 rfl rfl rfl (fun a hS => ?_)
 refine wpIn_seq ?_
 refine wpIn_region_lit ?_
 refine st_box_agg hS rfl rfl rfl fun W a b0 hS => st_alloc_agg Tryz.zeroValue31 hS rfl rfl fun W a b1 hS => st_v hS rfl rfl (run_assign hS rfl) fun a hS => wl_nil ?_
 refine wpIn_seq ?_
 refine wpIn_seq ?_
 refine wpIn_region_lit ?_
 refine st_v hS rfl rfl (run_load_all (i := 1) Tryz.isAgg31 Tryz.sizeOf31 hS rfl rfl rfl) fun a hS => st_call (ref01_Valid p) Tryz.call184 hS rfl rfl rfl fun v W a hR hB hlt hS => ?_
 subst hR
 refine st_v hS rfl rfl (run_not hS rfl) fun a hS => wl_nil ?_
 refine st_cond hS rfl (fun hc1 => ?_) (fun hc1 => ?_)
 ·
  try simp only [ty] at hc1
  refine wpIn_seq ?_
  refine wpIn_region_lit ?_
  refine st_v hS rfl rfl (run_build (pv := []) (fun W => bd31_ W) hS rfl) fun a hS => st_store (i := 0) Tryz.sizeOf31 hS rfl rfl rfl rfl rfl rfl rfl rfl rfl fun W a hS => st_v hS rfl rfl (run_assign hS rfl) fun a hS => wl_nil ?_
  refine wpIn_ret ?_
  repeat (first | refine q_ret ?_ | refine q_block_ret ?_)
  refine hS.done (res2 (fn := Tryz.f195) (r1 := .cell 6 31) (r2 := .tmp 7) rfl (rv_agg (i := 0) Tryz.isAgg31 Tryz.sizeOf31 hS rfl rfl rfl) (rv_tmp hS rfl)) ?_
  have h : p.ok = false := by simpa using hc1
  exact t2s (p := ⟨0, 0⟩) (by simp [partE, h]) (by simp [partE, h])
 ·
  try simp only [ty] at hc1
  have hpok : p.ok = true := by simpa using hc1
  have hp1 := (Span.ok_iff p).1 hpok
  refine wpIn_skip ?_
  refine wpIn_seq ?_
  refine wpIn_seq ?_
  refine wpIn_region_lit ?_
  refine st_v hS rfl rfl (run_move hS rfl) fun a hS => st_call (ref01_From) Tryz.call222 hS rfl rfl rfl fun v W a hR hB hlt hS => ?_
  subst hR
  refine st_v hS rfl rfl (run_not hS rfl) fun a hS => st_v hS rfl rfl (run_move hS rfl) fun a hS => ?_
  refine st_split (d := 15) hS rfl (fun hc2 hS => ?_) (fun hc2 hS => ?_)
  ·
   try simp only [ty] at hc2
   refine st_skip hS (hS.unwanted rfl rfl rfl rfl) rfl fun a hS => st_skip hS (hS.unwanted rfl rfl rfl rfl) rfl fun a hS => st_skip hS (hS.unwanted rfl rfl rfl rfl) rfl fun a hS => st_v hS rfl rfl (run_pick_t hS rfl rfl) fun a hS => wl_nil ?_
   refine st_cond_t hS rfl ?_
   refine wpIn_seq ?_
   refine wpIn_region_lit ?_
   refine st_v hS rfl rfl (run_build (pv := []) (fun W => bd31_ W) hS rfl) fun a hS => st_store (i := 0) Tryz.sizeOf31 hS rfl rfl rfl rfl rfl rfl rfl rfl rfl fun W a hS => st_v hS rfl rfl (run_assign hS rfl) fun a hS => wl_nil ?_
   refine wpIn_ret ?_
   repeat (first | refine q_ret ?_ | refine q_block_ret ?_)
   refine hS.done (res2 (fn := Tryz.f195) (r1 := .cell 6 31) (r2 := .tmp 7) rfl (rv_agg (i := 0) Tryz.isAgg31 Tryz.sizeOf31 hS rfl rfl rfl) (rv_tmp hS rfl)) ?_
   have hw : (within n 0 1000 && within d 1 1000) = false := by simp_all
   exact t2s (p := ⟨0, 0⟩) (by simp [partE, hpok, hw]) (by simp [partE, hpok, hw])
  ·
   try simp only [ty] at hc2
   refine st_v hS (hS.wanted rfl rfl rfl) rfl (run_move hS rfl) fun a hS => st_call (ref01_From) Tryz.call222 hS (hS.wanted rfl rfl rfl) rfl rfl fun v W a hR hB hlt hS => ?_
   subst hR
   refine st_v hS (hS.wanted rfl rfl rfl) rfl (run_not hS rfl) fun a hS => st_v hS rfl rfl (run_pick_f hS rfl rfl) fun a hS => wl_nil ?_
   refine st_cond hS rfl (fun hc3 => ?_) (fun hc3 => ?_)
   ·
    try simp only [ty] at hc3
    refine wpIn_seq ?_
    refine wpIn_region_lit ?_
    refine st_v hS rfl rfl (run_build (pv := []) (fun W => bd31_ W) hS rfl) fun a hS => st_store (i := 0) Tryz.sizeOf31 hS rfl rfl rfl rfl rfl rfl rfl rfl rfl fun W a hS => st_v hS rfl rfl (run_assign hS rfl) fun a hS => wl_nil ?_
    refine wpIn_ret ?_
    repeat (first | refine q_ret ?_ | refine q_block_ret ?_)
    refine hS.done (res2 (fn := Tryz.f195) (r1 := .cell 6 31) (r2 := .tmp 7) rfl (rv_agg (i := 0) Tryz.isAgg31 Tryz.sizeOf31 hS rfl rfl rfl) (rv_tmp hS rfl)) ?_
    have hw : (within n 0 1000 && within d 1 1000) = false := by simp_all
    exact t2s (p := ⟨0, 0⟩) (by simp [partE, hpok, hw]) (by simp [partE, hpok, hw])
   ·
    try simp only [ty] at hc3
    have hn : (0 ≤ n ∧ n ≤ 1000) ∧ (1 ≤ d ∧ d ≤ 1000) := by
      simp only [within, Bool.and_eq_true, decide_eq_true_eq] at *; omega
    have hw : (within n 0 1000 && within d 1 1000) = true := by simp [hc1, hc2, hc3]
    have p1 := mul_bd (a := p.lo) (b := n) (A := 1000000) (B := 1000) (by omega) (by omega); have p2 := mul_bd (a := p.hi) (b := n) (A := 1000000) (B := 1000) (by omega) (by omega)
    refine wpIn_skip ?_
    refine wpIn_seq ?_
    have hlt0 := fun B hB => hS.lt (b := B) hB
    refine st_mix (k := 16) (by kernel_rfl) (by kernel_rfl) hS rfl rfl ?_
    refine mx_v (fun a W hS hB => run_fieldAddr fa31_0 hS rfl) <| mx_v (fun a W hS hB => run_load_one (i := 1) Tryz.isAgg3 hS rfl rfl rfl) <| mx_v (fun a W hS hB => run_move hS rfl) <| mx_v (fun a W hS hB => run_mul (t := p.lo * n) hS rfl rfl (rfl) (by omega)) <| mx_v (fun a W hS hB => run_move hS rfl) <| mx_call Tryz.call238 rfl (fun a W hS hB => ref01_floor (by omega) (by omega) (by omega)) <| mx_v (fun a W hS hB => run_fieldAddr fa31_1 hS rfl) <| mx_v (fun a W hS hB => run_load_one (i := 1) Tryz.isAgg3 hS rfl rfl rfl) <| mx_v (fun a W hS hB => run_move hS rfl) <| mx_v (fun a W hS hB => run_mul (t := p.hi * n) hS rfl rfl (rfl) (by omega)) <| mx_v (fun a W hS hB => run_move hS rfl) <| mx_call Tryz.call239 rfl (fun a W hS hB => ref01_ceil (by omega) (by omega) (by omega)) <| mx_v (fun a W hS hB => run_build (pv := [(0, .int .i64 _), (1, .int .i64 _)]) (fun W => bd31_0_1 _ _ W) hS rfl) <| mx_call Tryz.call237 rfl (fun a W hS hB => ref01_made (⟨fl (p.lo * n) d, ce (p.hi * n) d⟩ : Span)) <| mx_v (fun a W hS hB => run_extract hS rfl rfl) <| mx_v (fun a W hS hB => run_extract hS rfl rfl) <| ?_
    refine mx_end fun a W bs us hS hB hL => ?_
    dsimp only [kall, ball, List.cons_append, List.nil_append] at hS
    refine st_store (i := 0) Tryz.sizeOf31 hS rfl rfl rfl rfl rfl rfl rfl rfl rfl fun W a hS => st_v hS rfl rfl (run_assign hS rfl) fun a hS => wl_nil ?_
    have hS := hS.sub (κ' := [(0, _), (1, _), (2, _), (3, _), (6, _), (7, _)]) (Sub.cons rfl (Sub.cons rfl (Sub.cons rfl (Sub.cons rfl (Sub.cons rfl (Sub.cons rfl Sub.nil))))))
    refine wpIn_ret ?_
    repeat (first | refine q_ret ?_ | refine q_block_ret ?_)
    refine hS.done (res2 (fn := Tryz.f195) (r1 := .cell 6 31) (r2 := .tmp 7) rfl (rv_agg (i := 0) Tryz.isAgg31 Tryz.sizeOf31 hS rfl rfl rfl) (rv_tmp hS rfl)) ?_
    exact t2s (p := (if (partOf p n d).ok then partOf p n d else ⟨0, 0⟩)) (e := if (partOf p n d).ok then 0 else 2) (by simp only [partE, hpok, hw, if_true]; cases (partOf p n d).ok <;> simp) (by simp only [partE, hpok, hw, if_true])
set_option maxHeartbeats 2000000 in
set_option maxRecDepth 100000 in
theorem ref02_Level  (Vr : RV) (r : Rot) (A : Air) (p : Span) {w : World} {Fr : Nat → Prop} (hr : RotR Fr w Vr r)  : Ret Tryz.prog 181 [.agg (rotC Vr r).toArray, .agg (airC A).toArray, .agg (spanC p).toArray] w (fun v _ => v = .tuple #[.agg (spanC (if errC r A (onLevel r A p) = 0 then levelOf r A p else ⟨0, 0⟩)).toArray, .int .i64 (errC r A (onLevel r A p))]) := by
 refine ret_start (n := 30) Tryz.func181 rfl rfl rfl (fun a hS => ?_)
 have Hr : ∀ W, Below w.heap.size w W → RotR Fr W Vr r := fun W hb => hr.move (keep_of hb)
 refine wpIn_seq ?_
 refine wpIn_region_lit ?_
 refine st_box_agg hS rfl rfl rfl fun W a b0 hS => st_box_agg hS rfl rfl rfl fun W a b1 hS => st_box_agg hS rfl rfl rfl fun W a b2 hS => st_alloc_agg Tryz.zeroValue31 hS rfl rfl fun W a b3 hS => st_v hS rfl rfl (run_assign hS rfl) fun a hS => wl_nil ?_
 refine wpIn_seq ?_
 refine wpIn_region_lit ?_
 refine st_v hS rfl rfl (run_load_all (i := 3) Tryz.isAgg27 Tryz.sizeOf27 hS rfl rfl rfl) fun a hS => st_v hS rfl rfl (run_load_all (i := 2) Tryz.isAgg33 Tryz.sizeOf33 hS rfl rfl rfl) fun a hS => st_call (ref02_CheckAir Vr r A (Hr _ hS.below)) Tryz.call160 hS rfl rfl rfl fun v W a hR hB hlt hS => ?_
 subst hR
 refine st_v hS rfl rfl (run_assign hS rfl) fun a hS => wl_nil ?_
 refine wpIn_seq ?_
 refine wpIn_seq ?_
 refine wpIn_region_lit ?_
 refine st_v hS rfl rfl (run_move hS rfl) fun a hS => st_v hS rfl rfl (run_bin hS rfl rfl rfl) fun a hS => wl_nil ?_
 refine st_cond hS rfl (fun hc1 => ?_) (fun hc1 => ?_)
 ·
  try simp only [ty] at hc1
  refine wpIn_seq ?_
  refine wpIn_region_lit ?_
  refine st_v hS rfl rfl (run_build (pv := []) (fun W => bd31_ W) hS rfl) fun a hS => st_v hS rfl rfl (run_move hS rfl) fun a hS => st_store (i := 0) Tryz.sizeOf31 hS rfl rfl rfl rfl rfl rfl rfl rfl rfl fun W a hS => st_v hS rfl rfl (run_assign hS rfl) fun a hS => wl_nil ?_
  refine wpIn_ret ?_
  repeat (first | refine q_ret ?_ | refine q_block_ret ?_)
  refine hS.done (res2 (fn := Tryz.f181) (r1 := .cell 6 31) (r2 := .tmp 7) rfl (rv_agg (i := 0) Tryz.isAgg31 Tryz.sizeOf31 hS rfl rfl rfl) (rv_tmp hS rfl)) ?_
  have hE : errC r A (onLevel r A p) = errC r A true := errC_t hc1
  exact t2s (p := ⟨0, 0⟩) (by rw [hE, if_neg hc1]) hE.symm
 ·
  try simp only [ty] at hc1
  obtain ⟨hrok, haok, _⟩ := errC_ok hc1
  obtain ⟨hA1, hA2, hA3, hA4⟩ := (airOk_iff A).1 haok
  have hRp := rot_p hrok
  refine wpIn_skip ?_
  refine wpIn_seq ?_
  refine wpIn_seq ?_
  refine wpIn_region_lit ?_
  refine st_v hS rfl rfl (run_fieldAddr fa27_2 hS rfl) fun a hS => st_v hS rfl rfl (run_load_agg (i := 3) (vs := [_, _, _]) Tryz.isAgg25 Tryz.sizeOf25 hS rfl rfl rfl ⟨rfl, rfl, rfl, trivial⟩) fun a hS => st_v hS rfl rfl (run_load_all (i := 1) Tryz.isAgg31 Tryz.sizeOf31 hS rfl rfl rfl) fun a hS => st_v hS rfl rfl (run_fieldAddr fa33_0 hS rfl) fun a hS => st_v hS rfl rfl (run_load_agg (i := 2) (vs := [_, _]) Tryz.isAgg31 Tryz.sizeOf31 hS rfl rfl rfl ⟨rfl, rfl, trivial⟩) fun a hS => st_call (ref02_lies Vr.level r.level p A.weight ((fun W hC => (Hr W hC).level) _ hS.below) (by exact hRp.level.1)) Tryz.call112 hS rfl rfl rfl fun v W a hR hB hlt hS => ?_
  subst hR
  refine st_v hS rfl rfl (run_not hS rfl) fun a hS => wl_nil ?_
  refine st_cond hS rfl (fun hc2 => ?_) (fun hc2 => ?_)
  ·
   try simp only [ty] at hc2
   refine wpIn_seq ?_
   refine wpIn_region_lit ?_
   refine st_v hS rfl rfl (run_build (pv := []) (fun W => bd31_ W) hS rfl) fun a hS => st_store (i := 0) Tryz.sizeOf31 hS rfl rfl rfl rfl rfl rfl rfl rfl rfl fun W a hS => st_v hS rfl rfl (run_assign hS rfl) fun a hS => wl_nil ?_
   refine wpIn_ret ?_
   repeat (first | refine q_ret ?_ | refine q_block_ret ?_)
   refine hS.done (res2 (fn := Tryz.f181) (r1 := .cell 6 31) (r2 := .tmp 7) rfl (rv_agg (i := 0) Tryz.isAgg31 Tryz.sizeOf31 hS rfl rfl rfl) (rv_tmp hS rfl)) ?_
   have hf : onLevel r A p = false := by
     revert hc2
     unfold onLevel
     cases p.ok <;> cases liesT r.level p A.weight <;> simp [hA1]
   have hE : errC r A (onLevel r A p) = 1 := errC_tf hrok haok hf
   exact t2s (p := ⟨0, 0⟩) (by rw [hE]; rfl) hE.symm
  ·
   try simp only [ty] at hc2
   have ht : onLevel r A p = true := by
     revert hc2
     unfold onLevel
     cases p.ok <;> cases liesT r.level p A.weight <;> simp [hA1]
   have hon2 := ht
   simp only [onLevel, Bool.and_eq_true] at hon2
   refine wpIn_skip ?_
   refine wpIn_seq ?_
   refine wpIn_region_lit ?_
   refine st_v hS rfl rfl (run_fieldAddr fa27_2 hS rfl) fun a hS => st_v hS rfl rfl (run_load_agg (i := 3) (vs := [_, _, _]) Tryz.isAgg25 Tryz.sizeOf25 hS rfl rfl rfl ⟨rfl, rfl, rfl, trivial⟩) fun a hS => st_v hS rfl rfl (run_load_all (i := 1) Tryz.isAgg31 Tryz.sizeOf31 hS rfl rfl rfl) fun a hS => st_v hS rfl rfl (run_fieldAddr fa33_0 hS rfl) fun a hS => st_v hS rfl rfl (run_load_agg (i := 2) (vs := [_, _]) Tryz.isAgg31 Tryz.sizeOf31 hS rfl rfl rfl ⟨rfl, rfl, trivial⟩) fun a hS => st_call (ref02_bound Vr.level r.level p A.weight ((fun W hC => (Hr W hC).level) _ hS.below) (by exact hRp.level.1) (by exact hon2.1) (by exact hA1) (by exact hon2.2)) Tryz.call113 hS rfl rfl rfl fun v W a hR hB hlt hS => ?_
   subst hR
   refine st_store (i := 0) Tryz.sizeOf31 hS rfl rfl rfl rfl rfl rfl rfl rfl rfl fun W a hS => st_v hS rfl rfl (run_assign hS rfl) fun a hS => wl_nil ?_
   refine wpIn_ret ?_
   repeat (first | refine q_ret ?_ | refine q_block_ret ?_)
   refine hS.done (res2 (fn := Tryz.f181) (r1 := .cell 6 31) (r2 := .tmp 7) rfl (rv_agg (i := 0) Tryz.isAgg31 Tryz.sizeOf31 hS rfl rfl rfl) (rv_tmp hS rfl)) ?_
   have hE : errC r A (onLevel r A p) = 0 := errC_tt hrok haok ht
   exact t2s (p := levelOf r A p) (by rw [hE]; rfl) hE.symm
set_option maxHeartbeats 2000000 in
set_option maxRecDepth 100000 in
theorem mach_wake  (Vr : RV) (r : Rot) (A : Air) (p : Span) (q : Span) {w : World} {Fr : Nat → Prop} (hr : RotR Fr w Vr r) (hrok : rotOk r = true) (haok : airOk A = true) (hon : onRing r A p = true) : Ret Tryz.prog 84 [.agg (machC Vr r A).toArray, .agg (spanC p).toArray, .agg (spanC q).toArray] w (fun v _ => v = .bool (wakeOf r A p q)) := by
 refine ret_start (n := 34) Tryz.func84 rfl rfl rfl (fun a hS => ?_)
 have Hr : ∀ W, Below w.heap.size w W → RotR Fr W Vr r := fun W hb => hr.move (keep_of hb)
 have hRp := rot_p hrok
 obtain ⟨hA1, hA2, hA3, hA4⟩ := (airOk_iff A).1 haok
 have hon2 := hon
 simp only [onRing, Bool.and_eq_true] at hon2
 have honh : liesT r.high p A.weight = true := by rw [ring_same hRp]; exact hon2.2
 refine wpIn_seq ?_
 refine wpIn_region_lit ?_
 refine st_box_agg hS rfl rfl rfl fun W a b0 hS => st_box_agg hS rfl rfl rfl fun W a b1 hS => st_box_agg hS rfl rfl rfl fun W a b2 hS => st_v hS rfl rfl (run_assign hS rfl) fun a hS => wl_nil ?_
 refine wpIn_seq ?_
 refine wpIn_region_lit ?_
 refine st_v hS rfl rfl (run_load_all (i := 2) Tryz.isAgg118 Tryz.sizeOf118 hS rfl rfl rfl) fun a hS => st_v hS rfl rfl (run_load_all (i := 1) Tryz.isAgg31 Tryz.sizeOf31 hS rfl rfl rfl) fun a hS => st_call (mach_ring Vr r A p (Hr _ hS.below)) Tryz.call79 hS rfl rfl rfl fun v W a hR hB hlt hS => ?_
 subst hR
 refine st_call (rotor_bound (⟨Vr.low, r.low, p, A.weight⟩ : LookV) ((fun W hC => (Hr W hC).low) _ hS.below) (by exact hRp.low.1) (by exact hon2.1) (by exact hA1) (by exact hon2.2)) Tryz.call95 hS rfl rfl rfl fun v W a hR hB hlt hS => ?_
 subst hR
 refine st_v hS rfl rfl (run_field (fun W => fd31_0 _ _ W) hS rfl) fun a hS => st_v hS rfl rfl (run_assign hS rfl) fun a hS => wl_nil ?_
 refine wpIn_seq ?_
 refine wpIn_region_lit ?_
 refine st_v hS rfl rfl (run_fieldAddr fa118_0 hS rfl) fun a hS => st_v hS rfl rfl (run_fieldAddr fa27_6 hS rfl) fun a hS => st_v hS rfl rfl (run_load_agg (i := 2) (vs := [_, _, _]) Tryz.isAgg25 Tryz.sizeOf25 hS rfl rfl rfl ⟨rfl, rfl, rfl, trivial⟩) fun a hS => st_v hS rfl rfl (run_load_all (i := 1) Tryz.isAgg31 Tryz.sizeOf31 hS rfl rfl rfl) fun a hS => st_v hS rfl rfl (run_fieldAddr fa118_1 hS rfl) fun a hS => st_v hS rfl rfl (run_fieldAddr fa33_0 hS rfl) fun a hS => st_v hS rfl rfl (run_load_agg (i := 2) (vs := [_, _]) Tryz.isAgg31 Tryz.sizeOf31 hS rfl rfl rfl ⟨rfl, rfl, trivial⟩) fun a hS => st_v hS rfl rfl (run_build (pv := [(0, .agg #[.slice _ _ _, .slice _ _ _, .slice _ _ _]), (1, .agg #[.int .i64 _, .int .i64 _]), (2, .agg #[.int .i64 _, .int .i64 _])]) (fun W => bd122_0_1_2 _ _ _ _ _ _ _ _ _ _ _ _ _ W) hS rfl) fun a hS => st_call (rotor_bound (⟨Vr.high, r.high, p, A.weight⟩ : LookV) ((fun W hC => (Hr W hC).high) _ hS.below) (by exact hRp.high.1) (by exact hon2.1) (by exact hA1) (by exact honh)) Tryz.call95 hS rfl rfl rfl fun v W a hR hB hlt hS => ?_
 subst hR
 refine st_v hS rfl rfl (run_field (fun W => fd31_1 _ _ W) hS rfl) fun a hS => st_v hS rfl rfl (run_assign hS rfl) fun a hS => wl_nil ?_
 refine wpIn_seq ?_
 refine wpIn_region_lit ?_
 refine st_v hS rfl rfl (run_fieldAddr fa31_1 hS rfl) fun a hS => st_v hS rfl rfl (run_load_one (i := 0) Tryz.isAgg3 hS rfl rfl rfl) fun a hS => st_v hS rfl rfl (run_move hS rfl) fun a hS => st_v hS rfl rfl (run_bin hS rfl rfl rfl) fun a hS => st_v hS rfl rfl (run_move hS rfl) fun a hS => ?_
 refine st_split (d := 28) hS rfl (fun hc1 hS => ?_) (fun hc1 hS => ?_)
 ·
  try simp only [ty] at hc1
  refine st_v hS (hS.wanted rfl rfl rfl) rfl (run_fieldAddr fa31_0 hS rfl) fun a hS => st_v hS (hS.wanted rfl rfl rfl) rfl (run_load_one (i := 0) Tryz.isAgg3 hS rfl rfl rfl) fun a hS => st_v hS (hS.wanted rfl rfl rfl) rfl (run_move hS rfl) fun a hS => st_v hS (hS.wanted rfl rfl rfl) rfl (run_bin hS rfl rfl rfl) fun a hS => st_v hS rfl rfl (run_pick_t hS rfl rfl) fun a hS => st_v hS rfl rfl (run_assign hS rfl) fun a hS => wl_nil ?_
  have hS := hS.sub (κ' := [(0, _), (1, _), (2, _), (3, _), (4, _), (5, _), (6, _), (7, _), (8, _)]) (Sub.cons rfl (Sub.cons rfl (Sub.cons rfl (Sub.cons rfl (Sub.cons rfl (Sub.cons rfl (Sub.cons rfl (Sub.cons rfl (Sub.cons rfl Sub.nil)))))))))
  refine wpIn_ret ?_
  repeat (first | refine q_ret ?_ | refine q_block_ret ?_)
  refine hS.done (res1 (fn := Tryz.f84) (r1 := .tmp 6) rfl (rv_tmp hS rfl)) ?_
  refine vb ?_; simp only [wakeOf, Bool.and_eq_true, decide_eq_true_eq, Bool.false_eq_true, false_iff]; omega
 ·
  try simp only [ty] at hc1
  refine st_skip hS (hS.unwanted rfl rfl rfl rfl) rfl fun a hS => st_skip hS (hS.unwanted rfl rfl rfl rfl) rfl fun a hS => st_skip hS (hS.unwanted rfl rfl rfl rfl) rfl fun a hS => st_skip hS (hS.unwanted rfl rfl rfl rfl) rfl fun a hS => st_v hS rfl rfl (run_pick_f hS rfl rfl) fun a hS => st_v hS rfl rfl (run_assign hS rfl) fun a hS => wl_nil ?_
  have hS := hS.sub (κ' := [(0, _), (1, _), (2, _), (3, _), (4, _), (5, _), (6, _), (7, _), (8, _)]) (Sub.cons rfl (Sub.cons rfl (Sub.cons rfl (Sub.cons rfl (Sub.cons rfl (Sub.cons rfl (Sub.cons rfl (Sub.cons rfl (Sub.cons rfl Sub.nil)))))))))
  refine wpIn_ret ?_
  repeat (first | refine q_ret ?_ | refine q_block_ret ?_)
  refine hS.done (res1 (fn := Tryz.f84) (r1 := .tmp 6) rfl (rv_tmp hS rfl)) ?_
  refine vb ?_; simp only [wakeOf, Bool.and_eq_true, decide_eq_true_eq, Bool.false_eq_true, false_iff]; omega
set_option maxHeartbeats 2000000 in
set_option maxRecDepth 100000 in
theorem rotor_wk1 {Vr : RV} {r : Rot} {A : Air} {p : Span} {Fr : Nat → Prop} (pc0 : Addr) (pc1 : Addr) {w : World} (hc0 : CellsAt w pc0 (machC Vr r A)) (hc1 : CellsAt w pc1 (spanC p)) (hrr : RotR Fr w Vr r) : Ret Tryz.prog 215 [.pointer (some pc0), .pointer (some pc1)] w (fun v W' => ∃ s : SV, v = .slice s.a (([⟨Vr.low, r.low, p, A.weight⟩] : List LookV)).length s.c ∧ Sl kLook (fun k => w.heap.size ≤ k) W' s ([⟨Vr.low, r.low, p, A.weight⟩] : List LookV)) := by
 refine ret_start (n := 7) Tryz.func215 rfl rfl rfl (fun a hS => ?_)
 have Hc0 : ∀ W, Below w.heap.size w W → CellsAt W pc0 (machC Vr r A) := fun W hb => hc0.at_ hb
 have Hc1 : ∀ W, Below w.heap.size w W → CellsAt W pc1 (spanC p) := fun W hb => hc1.at_ hb
 have Hr : ∀ W, Below w.heap.size w W → RotR Fr W Vr r := fun W hb => hrr.move (keep_of hb)
 refine wpIn_seq ?_
 refine wpIn_region_lit ?_
 refine st_v hS rfl rfl (run_assign hS rfl) fun a hS => wl_nil ?_
 refine wpIn_seq ?_
 refine wpIn_region_lit ?_
 refine st_v hS rfl rfl (run_load_ext Tryz.isAgg118 Tryz.sizeOf118 hS rfl rfl (Hc0 _ hS.below)) fun a hS => st_v hS rfl rfl (run_load_ext Tryz.isAgg31 Tryz.sizeOf31 hS rfl rfl (Hc1 _ hS.below)) fun a hS => st_call (mach_ring Vr r A p (Hr _ hS.below)) Tryz.call79 hS rfl rfl rfl fun v W a hR hB hlt hS => ?_
 subst hR
 refine st_buildSlice (pv := [(0, .agg #[.slice _ _ _, .slice _ _ _, .slice _ _ _, .int .i64 _, .int .i64 _, .int .i64 _, .int .i64 _])]) (fun W => bs120_1_0 _ _ _ _ _ _ _ _ _ _ _ _ _ W) hS rfl rfl rfl fun W a b0 hS => st_v hS rfl rfl (run_assign hS rfl) fun a hS => wl_nil ?_
 refine wpIn_ret ?_
 repeat (first | refine q_ret ?_ | refine q_block_ret ?_)
 refine hS.done (res1 (fn := Tryz.f215) (r1 := .tmp 2) rfl (rv_tmp hS rfl)) ?_
 exact ⟨⟨some ⟨b0, 0, none⟩, 1⟩, rfl, own_new (enc := lookC) (nn := 7) (bb := 104) (hb := by decide) (hl := fun _ => rfl) ([⟨Vr.low, r.low, p, A.weight⟩] : List LookV) hS (i := 0) rfl rfl (Nat.le_of_ble_eq_true rfl)⟩
theorem t2b {p q : Bool} {e e' : Int} (h1 : p = q) (h2 : e = e') : Value.tuple #[.bool p, .int .i64 e] = Value.tuple #[.bool q, .int .i64 e'] := by subst h1 h2; rfl
set_option maxHeartbeats 2000000 in
set_option maxRecDepth 100000 in
theorem rotor_Wake  (Vr : RV) (r : Rot) (A : Air) (p : Span) (q : Span) {w : World} {Fr : Nat → Prop} (hr : RotR Fr w Vr r)  : Ret Tryz.prog 171 [.agg (rotC Vr r).toArray, .agg (airC A).toArray, .agg (spanC p).toArray, .agg (spanC q).toArray] w (fun v _ => v = .tuple #[.bool (if errC r A (onWake r A p q) = 0 then wakeOf r A p q else false), .int .i64 (errC r A (onWake r A p q))]) := by
 refine ret_start (n := 29) Tryz.func171 rfl rfl rfl (fun a hS => ?_)
 have Hr : ∀ W, Below w.heap.size w W → RotR Fr W Vr r := fun W hb => hr.move (keep_of hb)
 refine wpIn_seq ?_
 refine wpIn_region_lit ?_
 refine st_box_agg hS rfl rfl rfl fun W a b0 hS => st_box_agg hS rfl rfl rfl fun W a b1 hS => st_box_agg hS rfl rfl rfl fun W a b2 hS => st_box_agg hS rfl rfl rfl fun W a b3 hS => st_v hS rfl rfl (run_assign hS rfl) fun a hS => st_v hS rfl rfl (run_assign hS rfl) fun a hS => wl_nil ?_
 refine wpIn_seq ?_
 refine wpIn_region_lit ?_
 refine st_v hS rfl rfl (run_load_all (i := 3) Tryz.isAgg27 Tryz.sizeOf27 hS rfl rfl rfl) fun a hS => st_v hS rfl rfl (run_load_all (i := 2) Tryz.isAgg33 Tryz.sizeOf33 hS rfl rfl rfl) fun a hS => st_v hS rfl rfl (run_build (pv := [(0, .agg #[.slice _ _ _, .slice _ _ _, .slice _ _ _, .slice _ _ _, .slice _ _ _, .slice _ _ _, .slice _ _ _, .slice _ _ _, .slice _ _ _, .slice _ _ _, .slice _ _ _, .slice _ _ _, .slice _ _ _, .slice _ _ _, .slice _ _ _, .slice _ _ _, .slice _ _ _, .slice _ _ _, .slice _ _ _, .slice _ _ _, .slice _ _ _, .slice _ _ _, .slice _ _ _, .slice _ _ _, .int .i64 _, .int .i64 _]), (1, .agg #[.int .i64 _, .int .i64 _, .int .i64 _, .int .i64 _, .int .i64 _, .int .i64 _, .int .i64 _, .int .i64 _])]) (fun W => bd118_0_1 _ _ _ _ _ _ _ _ _ _ _ _ _ _ _ _ _ _ _ _ _ _ _ _ _ _ _ _ _ _ _ _ _ _ _ _ _ _ _ _ _ _ _ _ _ _ _ _ _ _ _ _ _ _ _ _ _ _ _ _ _ _ _ _ _ _ _ _ _ _ _ _ _ _ _ _ _ _ _ _ _ _ W) hS rfl) fun a hS => st_alloc_agg Tryz.zeroValue118 hS rfl rfl fun W a b4 hS => st_store (cs' := [.slice Vr.hover.x.a r.hover.X.length Vr.hover.x.c, .slice Vr.hover.y.a r.hover.Y.length Vr.hover.y.c, .slice Vr.hover.v.a r.hover.V.length Vr.hover.v.c, .slice Vr.ground.x.a r.ground.X.length Vr.ground.x.c, .slice Vr.ground.y.a r.ground.Y.length Vr.ground.y.c, .slice Vr.ground.v.a r.ground.V.length Vr.ground.v.c, .slice Vr.level.x.a r.level.X.length Vr.level.x.c, .slice Vr.level.y.a r.level.Y.length Vr.level.y.c, .slice Vr.level.v.a r.level.V.length Vr.level.v.c, .slice Vr.power.x.a r.power.X.length Vr.power.x.c, .slice Vr.power.y.a r.power.Y.length Vr.power.y.c, .slice Vr.power.v.a r.power.V.length Vr.power.v.c, .slice Vr.never.x.a r.never.X.length Vr.never.x.c, .slice Vr.never.y.a r.never.Y.length Vr.never.y.c, .slice Vr.never.v.a r.never.V.length Vr.never.v.c, .slice Vr.low.x.a r.low.X.length Vr.low.x.c, .slice Vr.low.y.a r.low.Y.length Vr.low.y.c, .slice Vr.low.v.a r.low.V.length Vr.low.v.c, .slice Vr.high.x.a r.high.X.length Vr.high.x.c, .slice Vr.high.y.a r.high.Y.length Vr.high.y.c, .slice Vr.high.v.a r.high.V.length Vr.high.v.c, .slice Vr.glide.x.a r.glide.X.length Vr.glide.x.c, .slice Vr.glide.y.a r.glide.Y.length Vr.glide.y.c, .slice Vr.glide.v.a r.glide.V.length Vr.glide.v.c, .int .i64 r.climb, .int .i64 r.burn, .int .i64 A.weight.lo, .int .i64 A.weight.hi, .int .i64 A.temp.lo, .int .i64 A.temp.hi, .int .i64 A.height.lo, .int .i64 A.height.hi, .int .i64 A.wind.lo, .int .i64 A.wind.hi]) (i := 0) Tryz.sizeOf118 hS rfl rfl rfl rfl rfl rfl rfl rfl rfl fun W a hS => wl_nil ?_
 refine wpIn_seq ?_
 refine wpIn_seq ?_
 refine wpIn_region_lit ?_
 refine st_v hS rfl rfl (run_load_all (i := 4) Tryz.isAgg27 Tryz.sizeOf27 hS rfl rfl rfl) fun a hS => st_v hS rfl rfl (run_load_all (i := 3) Tryz.isAgg33 Tryz.sizeOf33 hS rfl rfl rfl) fun a hS => st_v hS rfl rfl (run_load_all (i := 2) Tryz.isAgg31 Tryz.sizeOf31 hS rfl rfl rfl) fun a hS => st_v hS rfl rfl (run_load_all (i := 1) Tryz.isAgg31 Tryz.sizeOf31 hS rfl rfl rfl) fun a hS => st_buildSlice (pv := [(0, .agg #[.int .i64 _, .int .i64 _]), (1, .agg #[.int .i64 _, .int .i64 _])]) (fun W => bs61_2_0_1 _ _ _ _ W) hS rfl rfl rfl fun W a b5 hS => st_v hS rfl rfl (run_makeFunc hS rfl rfl) fun a hS => st_call (rotor_check Vr r A (⟨some ⟨b5, 0, none⟩, 2⟩ : SV) [p, q] 215 [.pointer (some ⟨b4, 0, none⟩), .pointer (some ⟨b2, 0, none⟩)] ([⟨Vr.low, r.low, p, A.weight⟩] : List LookV) (Hr _ hS.below) (own_sl_of (dk := kSpan) (enc := spanC) (xs := [p, q]) (fun _ _ _ => rfl) hS (i := 0) rfl (Nat.le_of_ble_eq_true rfl)) Tryz.call215 (fun W' hb _ => rotor_wk1 _ _ (hS.cells (i := 1) rfl _ hb) (hS.cells (i := 3) rfl _ hb) (hr.move (keep_of (hS.below.trans (hb.mono hS.below.size))))) (fun hrok x hx => by
   have hRp := rot_p hrok
   have hr' := Hr _ hS.below
   simp only [List.mem_cons, List.not_mem_nil, or_false] at hx
   subst hx
   exact ⟨hr'.low, hRp.low.1⟩)) Tryz.call77 hS rfl rfl rfl fun v W a hR hB hlt hS => ?_
 rw [show errC r A (([p, q] : List Span).all Span.ok && ([⟨Vr.low, r.low, p, A.weight⟩] : List LookV).all fun x => liesT x.t x.p x.q) = errC r A (onWake r A p q) from errC_congr fun hrok => by
   have hRp := rot_p hrok
   simp [onWake, onRing]; cases p.ok <;> cases q.ok <;> simp] at hR
 subst hR
 refine st_v hS rfl rfl (run_assign hS rfl) fun a hS => wl_nil ?_
 refine wpIn_seq ?_
 refine wpIn_region_lit ?_
 refine st_v hS rfl rfl (run_move hS rfl) fun a hS => st_v hS rfl rfl (run_bin hS rfl rfl rfl) fun a hS => wl_nil ?_
 refine st_cond hS rfl (fun hc1 => ?_) (fun hc1 => ?_)
 ·
  try simp only [ty] at hc1
  refine wpIn_seq ?_
  refine wpIn_region_lit ?_
  refine st_v hS rfl rfl (run_move hS rfl) fun a hS => st_v hS rfl rfl (run_assign hS rfl) fun a hS => st_v hS rfl rfl (run_assign hS rfl) fun a hS => wl_nil ?_
  refine wpIn_ret ?_
  repeat (first | refine q_ret ?_ | refine q_block_ret ?_)
  refine hS.done (res2 (fn := Tryz.f171) (r1 := .tmp 8) (r2 := .tmp 9) rfl (rv_tmp hS rfl) (rv_tmp hS rfl)) ?_
  exact t2b (p := false) (by rw [if_neg hc1]) rfl
 ·
  try simp only [ty] at hc1
  obtain ⟨hrok, haok, hon⟩ := errC_ok hc1
  obtain ⟨hA1, hA2, hA3, hA4⟩ := (airOk_iff A).1 haok
  have hRp := rot_p hrok
  simp only [onWake, Bool.and_eq_true] at hon
  refine wpIn_skip ?_
  refine wpIn_seq ?_
  refine wpIn_region_lit ?_
  refine st_v hS rfl rfl (run_load_all (i := 1) Tryz.isAgg118 Tryz.sizeOf118 hS rfl rfl rfl) fun a hS => st_v hS rfl rfl (run_load_all (i := 3) Tryz.isAgg31 Tryz.sizeOf31 hS rfl rfl rfl) fun a hS => st_v hS rfl rfl (run_load_all (i := 2) Tryz.isAgg31 Tryz.sizeOf31 hS rfl rfl rfl) fun a hS => st_call (mach_wake Vr r A p q (Hr _ hS.below) (by assumption) (by assumption) (by exact hon.2)) Tryz.call84 hS rfl rfl rfl fun v W a hR hB hlt hS => ?_
  subst hR
  refine st_v hS rfl rfl (run_assign hS rfl) fun a hS => st_v hS rfl rfl (run_assign hS rfl) fun a hS => wl_nil ?_
  refine wpIn_ret ?_
  repeat (first | refine q_ret ?_ | refine q_block_ret ?_)
  refine hS.done (res2 (fn := Tryz.f171) (r1 := .tmp 8) (r2 := .tmp 9) rfl (rv_tmp hS rfl) (rv_tmp hS rfl)) ?_
  exact t2b (p := wakeOf r A p q) (by rw [if_pos hc1]) hc1.symm
end Go.Proofs.YtdnodlgebpnfoaaGreat
namespace Go.Proofs.YtdnodlgebpnfoaaGreat
open Go Go.RowKit Go.Shelf Sw
section
variable {P : Program} {r : Option Nat} {m : Nat} {Q : Exit → Act → World → Prop} {ds : List Nat} {w W : World} {n : Nat} {a : Act} {κ : KV} {l : List Blk} {Φ : World → Prop} {C : Code}
def CutQ (R : Act → World → Prop) (e : Exit) (a : Act) (W : World) : Prop := e = .normal ∧ R a W
theorem cut_end {R : Act → World → Prop} (h : R a W) : CutQ R .normal a W := ⟨rfl, h⟩
theorem st_cut (d : Nat) (x : Value) (hS : St ds w W n a κ l Φ) (h : C.wpIn (Fw r) m P (CutQ fun a W => St ds w W n a ((d, x) :: κ) l Φ) a W) (K : ∀ W a, St ds w W n a ((d, x) :: κ) l Φ → Q .normal a W) : C.wpIn (Fw r) m P Q a W :=
  wpIn_mono h fun e a' W' he => by obtain ⟨rfl, hS'⟩ := he; exact K W' a' hS'
theorem st_cutN (xs : Nat → KV) (ls : Nat → List Blk) (hS : St ds w W n a κ l Φ) (h : C.wpIn (Fw r) m P (CutQ fun a W => ∃ b, St ds w W n a (xs b ++ κ) (ls b ++ l) Φ) a W) (K : ∀ W a b, St ds w W n a (xs b ++ κ) (ls b ++ l) Φ → Q .normal a W) : C.wpIn (Fw r) m P Q a W :=
  wpIn_mono h fun e a' W' he => by obtain ⟨rfl, b, hS'⟩ := he; exact K W' a' b hS'
end
end Go.Proofs.YtdnodlgebpnfoaaGreat
namespace Go.Proofs.YtdnodlgebpnfoaaGreat
open Go Go.RowKit Go.Shelf Sw
abbrev dropC (d : Drop) : List Value := [.int .i64 d.speed.lo, .int .i64 d.speed.hi, .int .i64 d.sink.lo, .int .i64 d.sink.hi, .int .i64 d.ticks]
section
variable {P : Program} {r : Option Nat} {m : Nat} {ops : Array Oper} {Q : Exit → Act → World → Prop} {ds : List Nat} {w W : World} {n d : Nat} {κ : KV} {l : List Blk} {Φ : World → Prop} {a : Act}
  {rest : List Oper} {ty T E tx e' : TypeId} {pos : String} {af : Array Edge} {g : Option (Nat × Bool)} {F : Nat → Prop} {s : SV} {α : Type} {enc : α → List Value} {nn bb : Nat} {hb : 0 < bb} {hl : ∀ x, (enc x).length = nn} {xs : List α}
theorem drop_one : ∀ x : Drop, ∀ u ∈ dropC x, u.oneCell' = true := by
  intro x u hu
  simp only [List.mem_cons, List.not_mem_nil, or_false] at hu
  rcases hu with rfl | rfl | rfl | rfl | rfl <;> rfl
end
end Go.Proofs.YtdnodlgebpnfoaaGreat
namespace Go.Proofs.YtdnodlgebpnfoaaGreat
open Go Go.RowKit Go.Shelf Sw
structure Cr where
  one : Int
  unit : Int
  step : Int
  top : Int
  drop : Int
  touch : Int
  sink : Int
abbrev craftC (V : RV) (r : Rot) (c : Cr) : List Value := [.slice V.hover.x.a r.hover.X.length V.hover.x.c, .slice V.hover.y.a r.hover.Y.length V.hover.y.c, .slice V.hover.v.a r.hover.V.length V.hover.v.c, .slice V.ground.x.a r.ground.X.length V.ground.x.c, .slice V.ground.y.a r.ground.Y.length V.ground.y.c, .slice V.ground.v.a r.ground.V.length V.ground.v.c, .slice V.level.x.a r.level.X.length V.level.x.c, .slice V.level.y.a r.level.Y.length V.level.y.c, .slice V.level.v.a r.level.V.length V.level.v.c, .slice V.power.x.a r.power.X.length V.power.x.c, .slice V.power.y.a r.power.Y.length V.power.y.c, .slice V.power.v.a r.power.V.length V.power.v.c, .slice V.never.x.a r.never.X.length V.never.x.c, .slice V.never.y.a r.never.Y.length V.never.y.c, .slice V.never.v.a r.never.V.length V.never.v.c, .slice V.low.x.a r.low.X.length V.low.x.c, .slice V.low.y.a r.low.Y.length V.low.y.c, .slice V.low.v.a r.low.V.length V.low.v.c, .slice V.high.x.a r.high.X.length V.high.x.c, .slice V.high.y.a r.high.Y.length V.high.y.c, .slice V.high.v.a r.high.V.length V.high.v.c, .slice V.glide.x.a r.glide.X.length V.glide.x.c, .slice V.glide.y.a r.glide.Y.length V.glide.y.c, .slice V.glide.v.a r.glide.V.length V.glide.v.c, .int .i64 r.climb, .int .i64 r.burn, .int .i64 c.one, .int .i64 c.unit, .int .i64 c.step, .int .i64 c.top, .int .i64 c.drop, .int .i64 c.touch, .int .i64 c.sink]
structure Hind where
  at_ : Int
  height : Int
abbrev hindC (h : Hind) : List Value := [.int .i64 h.at_, .int .i64 h.height]
abbrev kHind : Kd Hind := kOf hindC 2 16 (by decide) (fun _ => rfl)
def hindD : Hind := ⟨0, 0⟩
def hindAt (xs : List Hind) (j : Nat) : Hind := xs.getD j hindD
structure Fld where
  length : Int
  clear : Int
  safe : Int
  hinds : List Hind
abbrev fldC (s : SV) (f : Fld) : List Value := [.int .i64 f.length, .int .i64 f.clear, .int .i64 f.safe, .slice s.a f.hinds.length s.c]
structure Pose where
  x : Int
  speed : Int
  height : Int
  deriving DecidableEq
abbrev poseC (p : Pose) : List Value := [.int .i64 p.x, .int .i64 p.speed, .int .i64 p.height]
abbrev kPose : Kd Pose := kOf poseC 3 24 (by decide) (fun _ => rfl)
def poseD : Pose := ⟨0, 0, 0⟩
def poseAt (xs : List Pose) (j : Nat) : Pose := xs.getD j poseD
theorem St.perm {ds : List Nat} {w W : World} {n : Nat} {a : Act} {κ : KV} {l l' : List Blk} {Φ : World → Prop} (hS : St ds w W n a κ l Φ) (hp : l'.Perm l) : St ds w W n a κ l' Φ :=
  ⟨hS.size, hS.defers, hS.get, hS.below, fun b hb => hS.blk b (hp.mem_iff.1 hb), fun b hb => hS.old b (hp.mem_iff.1 hb), (hp.pairwise_iff (fun {_ _} h => Ne.symm h)).2 hS.dist,
    fun W' ho hz => hS.fact W' ⟨ho.os, ho.tape, ho.output, fun k hk hn => ho.same k hk fun b hb => hn b (hp.mem_iff.1 hb)⟩ hz⟩
def numOk (c : Cr) : Bool := within c.one 0 100 && within c.unit 1 1000 && within c.step 1 1000 && within c.top 1 6 && within c.drop 1 3 && within c.touch 0 c.top && within c.sink 1 c.drop
def craftOk (r : Rot) (c : Cr) : Bool := numOk c && (lies r.level.X 0 (c.top * c.unit) && lies r.low.X 0 0)
def craftE (r : Rot) (c : Cr) : Int := if rotOk r then (if craftOk r c then 0 else 30) else 20
def hindOk (h : Hind) : Bool := within h.at_ (-40) 40 && within h.height 1 12
def fldOk (f : Fld) : Bool := within f.length 0 40 && within f.clear 1 12 && within f.safe 0 6 && decide (f.hinds.length ≤ 6) && f.hinds.all hindOk
def fldE (f : Fld) : Int := if fldOk f then 0 else 31
def onAx (l : List Int) (n : Int) : Bool := decide (ix l 0 ≤ n) && decide (n ≤ lastOf l)
def chkE (r : Rot) (c : Cr) (f : Fld) : Int := if craftE r c = 0 then fldE f else craftE r c
def onAir (r : Rot) (a : Air) : Bool := lies r.power.X a.temp.lo a.temp.hi && lies r.power.Y a.height.lo a.height.hi && lies r.level.Y a.weight.lo a.weight.hi && lies r.low.Y a.weight.lo a.weight.hi
def airE (r : Rot) (c : Cr) (a : Air) : Int := if craftE r c = 0 then errC r a (onAir r a) else craftE r c
def allE (r : Rot) (c : Cr) (a : Air) (f : Fld) : Int := if airE r c a = 0 then fldE f else airE r c a
structure CrP (c : Cr) : Prop where
  one : 0 ≤ c.one ∧ c.one ≤ 100
  unit : 1 ≤ c.unit ∧ c.unit ≤ 1000
  step : 1 ≤ c.step ∧ c.step ≤ 1000
  top : 1 ≤ c.top ∧ c.top ≤ 6
  drop : 1 ≤ c.drop ∧ c.drop ≤ 3
  touch : 0 ≤ c.touch ∧ c.touch ≤ c.top
  sink : 1 ≤ c.sink ∧ c.sink ≤ c.drop
theorem num_p {c : Cr} (h : numOk c = true) : CrP c := by
  simp only [numOk, within, Bool.and_eq_true, decide_eq_true_eq] at h
  exact ⟨h.1.1.1.1.1.1, h.1.1.1.1.1.2, h.1.1.1.1.2, h.1.1.1.2, h.1.1.2, h.1.2, h.2⟩
theorem craftE_ok {r : Rot} {c : Cr} (h : craftE r c = 0) : rotOk r = true ∧ CrP c ∧ lies r.level.X 0 (c.top * c.unit) = true ∧ lies r.low.X 0 0 = true := by
  unfold craftE at h
  by_cases h1 : rotOk r = true
  · rw [if_pos h1] at h
    by_cases h2 : craftOk r c = true
    · simp only [craftOk, Bool.and_eq_true] at h2
      exact ⟨h1, num_p h2.1, h2.2.1, h2.2.2⟩
    · rw [if_neg h2] at h; cases h
  · rw [if_neg h1] at h; cases h
theorem lies_ax {l : List Int} {lo hi : Int} (h : lo ≤ hi) : lies l lo hi = (onAx l lo && onAx l hi) := by
  unfold lies onAx
  by_cases h1 : ix l 0 ≤ lo <;> by_cases h2 : hi ≤ lastOf l
  · have h3 : ix l 0 ≤ hi := by omega
    have h4 : lo ≤ lastOf l := by omega
    simp [h1, h2, h3, h4]
  · simp [h1, h2]
  · simp [h1, h2]
  · simp [h1, h2]
theorem up_neg {n d : Int} (hd : 0 < d) : (-n + d - 1) / d = -(n / d) := by
  have h1 := Int.mul_ediv_add_emod n d
  have h2 := Int.emod_nonneg n (Int.ne_of_gt hd)
  have h3 := Int.emod_lt_of_pos n hd
  have e : -n + d - 1 = (d - 1 - n % d) + d * (-(n / d)) := by rw [Int.mul_neg]; omega
  rw [e, Int.add_mul_ediv_left _ _ (Int.ne_of_gt hd), Int.ediv_eq_zero_of_lt (by omega) (by omega)]; omega
def powOf (r : Rot) (c : Cr) (a : Air) (single : Bool) : Span := if single then partOf (hasOf r a) c.one 100 else hasOf r a
def rateAt (r : Rot) (c : Cr) (a : Air) (single : Bool) (v : Int) : Int := fl ((powOf r c a single).lo - (levelOf r a (one (v * c.unit))).hi) (r.climb * c.step)
def ratesOf (r : Rot) (c : Cr) (a : Air) (single : Bool) (k : Nat) : List Int := (List.range k).map fun (v : Nat) => rateAt r c a single (v : Int)
theorem airE_ok {r : Rot} {c : Cr} {a : Air} (h : airE r c a = 0) : craftE r c = 0 ∧ rotOk r = true ∧ airOk a = true ∧ CrP c ∧ onHas r a = true ∧ lies r.level.Y a.weight.lo a.weight.hi = true ∧ lies r.low.Y a.weight.lo a.weight.hi = true ∧ lies r.level.X 0 (c.top * c.unit) = true ∧ lies r.low.X 0 0 = true := by
  unfold airE at h
  by_cases h1 : craftE r c = 0
  · rw [if_pos h1] at h
    obtain ⟨h2, h3, h4⟩ := errC_ok h
    obtain ⟨_, h5, h6, h7⟩ := craftE_ok h1
    simp only [onAir, Bool.and_eq_true] at h4
    exact ⟨h1, h2, h3, h5, by simp only [onHas, liesT, Bool.and_eq_true]; exact h4.1.1, h4.1.2, h4.2, h6, h7⟩
  · rw [if_neg h1] at h; exact absurd h h1
theorem level_on {r : Rot} {c : Cr} {a : Air} (h : airE r c a = 0) {v : Int} (h1 : 0 ≤ v) (h2 : v ≤ c.top) : onLevel r a (one (v * c.unit)) = true ∧ 0 ≤ v * c.unit ∧ v * c.unit ≤ 6000 := by
  obtain ⟨_, hr, ha, hp, _, h3, _, h4, _⟩ := airE_ok h
  have hu := hp.unit
  have ht := hp.top
  have p1 := prod_in (a := v) (b := c.unit) (A := 6) (B := 1000) h1 (by omega) (by omega) hu.2
  have p2 : v * c.unit ≤ c.top * c.unit := Int.mul_le_mul_of_nonneg_right h2 (by omega)
  have hl : liesT r.level (one (v * c.unit)) a.weight = true := by
    unfold liesT
    rw [h3, Bool.and_true]
    rw [lies_ax (by omega)] at h4
    simp only [onAx, Bool.and_eq_true, decide_eq_true_eq] at h4
    unfold lies one
    rw [decide_eq_true (show ix r.level.X 0 ≤ v * c.unit by omega), decide_eq_true (show v * c.unit ≤ lastOf r.level.X by omega)]; rfl
  exact ⟨by simp only [onLevel, Bool.and_eq_true]; exact ⟨one_lies (rot_p hr).level.1 hl, hl⟩, p1.1, by omega⟩
theorem half_ok {p : Span} (h : 0 ≤ p.lo ∧ p.lo ≤ p.hi ∧ p.hi ≤ 100000) {n : Int} (hn : 0 ≤ n ∧ n ≤ 100) : partE p n 100 = 0 ∧ 0 ≤ (partOf p n 100).lo ∧ (partOf p n 100).lo ≤ 100000 := by
  have p1 := prod_in h.1 (show p.lo ≤ 100000 by omega) hn.1 hn.2
  have p2 := prod_in (show 0 ≤ p.hi by omega) h.2.2 hn.1 hn.2
  have p3 : p.lo * n ≤ p.hi * n := Int.mul_le_mul_of_nonneg_right h.2.1 hn.1
  have h1 : p.ok = true := by rw [Span.ok_iff]; omega
  have h2 : (partOf p n 100).ok = true := by
    rw [Span.ok_iff]; unfold partOf fl ce; simp only; omega
  have h3 : (within n 0 1000 && within 100 1 1000) = true := by simp [within]; omega
  refine ⟨by unfold partE; simp only [h1, h2, h3, if_true], ?_, ?_⟩
  · unfold partOf fl; simp only; omega
  · unfold partOf fl; simp only; omega
theorem has_in {r : Rot} {c : Cr} {a : Air} (h : airE r c a = 0) : 0 ≤ (hasOf r a).lo ∧ (hasOf r a).lo ≤ (hasOf r a).hi ∧ (hasOf r a).hi ≤ 100000 := by
  obtain ⟨_, hr, ha, _, h1, _⟩ := airE_ok h
  have hR := rot_p hr
  rw [airOk_iff] at ha
  have w1 := bnd_in hR.power ha.2.1 ha.2.2.1 h1
  unfold hasOf; omega
theorem pow_in {r : Rot} {c : Cr} {a : Air} (h : airE r c a = 0) (single : Bool) : 0 ≤ (powOf r c a single).lo ∧ (powOf r c a single).lo ≤ 100000 := by
  have h1 := has_in h
  obtain ⟨_, _, _, hp, _⟩ := airE_ok h
  unfold powOf
  cases single with
  | false => rw [if_neg (by decide)]; omega
  | true => rw [if_pos rfl]; exact (half_ok h1 hp.one).2
end Go.Proofs.YtdnodlgebpnfoaaGreat
namespace Go.Proofs.YtdnodlgebpnfoaaGreat
open Go Go.RowKit Go.Shelf Sw
set_option maxHeartbeats 2000000 in
set_option maxRecDepth 100000 in
theorem engine_on  (sxs : SV) (xs : List Int) {n : Int} {w : World} {Fxs : Nat → Prop} (hxs : Sl kInt Fxs w sxs xs) (h0 : 0 < xs.length) (h9 : xs.length ≤ 12) : Ret Tryz.prog 192 [.slice sxs.a xs.length sxs.c, .int .i64 n] w (fun v _ => v = .bool (onAx xs n)) := by
 refine ret_start (n := 20) Tryz.func192 rfl rfl rfl (fun a hS => ?_)
 have Hxs : ∀ W, Below w.heap.size w W → Sl kInt Fxs W sxs xs := fun W hb => hxs.at_ hb
 have hmxs := hxs.len
 refine wpIn_seq ?_
 refine wpIn_region_lit ?_
 refine st_v hS rfl rfl (run_assign hS rfl) fun a hS => wl_nil ?_
 refine wpIn_seq ?_
 refine wpIn_region_lit ?_
 refine st_v hS rfl rfl (run_move hS rfl) fun a hS => st_v hS rfl rfl (run_move hS rfl) fun a hS => ?_
 obtain ⟨ad0, hA0, hL0⟩ := sl_int Hxs (Below.refl _ _) (i := 0) (j := 0) (by omega) (by omega)
 refine st_v hS rfl rfl (run_indexAddr Tryz.underlying22 Tryz.sizeOf3 hS rfl rfl hA0 (by omega) (by omega)) fun a hS => st_v hS rfl rfl (run_load_cell Tryz.isAgg3 hS rfl (hL0 _ hS.below)) fun a hS => st_v hS rfl rfl (run_bin hS rfl rfl rfl) fun a hS => st_v hS rfl rfl (run_move hS rfl) fun a hS => ?_
 refine st_split (d := 10) hS rfl (fun hc1 hS => ?_) (fun hc1 hS => ?_)
 ·
  try simp only [ty] at hc1
  refine st_v hS (hS.wanted rfl rfl rfl) rfl (run_move hS rfl) fun a hS => st_v hS (hS.wanted rfl rfl rfl) rfl (run_move hS rfl) fun a hS => st_v hS (hS.wanted rfl rfl rfl) rfl (run_move hS rfl) fun a hS => st_v hS (hS.wanted rfl rfl rfl) rfl (run_len_slice Tryz.underlying22 hS rfl) fun a hS => st_v hS (hS.wanted rfl rfl rfl) rfl (run_sub (t := ((xs.length - 1 : Nat) : Int)) hS rfl rfl (by omega) (by omega) (by omega)) fun a hS => ?_
  obtain ⟨ad1, hA1, hL1⟩ := sl_int Hxs (Below.refl _ _) (i := ((xs.length - 1 : Nat) : Int)) (j := xs.length - 1) (by omega) (by omega)
  refine st_v hS (hS.wanted rfl rfl rfl) rfl (run_indexAddr Tryz.underlying22 Tryz.sizeOf3 hS rfl rfl hA1 (by omega) (by omega)) fun a hS => st_v hS (hS.wanted rfl rfl rfl) rfl (run_load_cell Tryz.isAgg3 hS rfl (hL1 _ hS.below)) fun a hS => st_v hS (hS.wanted rfl rfl rfl) rfl (run_bin hS rfl rfl rfl) fun a hS => st_v hS rfl rfl (run_pick_t hS rfl rfl) fun a hS => st_v hS rfl rfl (run_assign hS rfl) fun a hS => wl_nil ?_
  refine wpIn_ret ?_
  repeat (first | refine q_ret ?_ | refine q_block_ret ?_)
  refine hS.done (res1 (fn := Tryz.f192) (r1 := .tmp 4) rfl (rv_tmp hS rfl)) ?_
  refine vb ?_; simp only [onAx, Bool.and_eq_true, decide_eq_true_eq, Bool.false_eq_true, false_iff]; unfold lastOf; omega
 ·
  try simp only [ty] at hc1
  refine st_skip hS (hS.unwanted rfl rfl rfl rfl) rfl fun a hS => st_skip hS (hS.unwanted rfl rfl rfl rfl) rfl fun a hS => st_skip hS (hS.unwanted rfl rfl rfl rfl) rfl fun a hS => st_skip hS (hS.unwanted rfl rfl rfl rfl) rfl fun a hS => st_skip hS (hS.unwanted rfl rfl rfl rfl) rfl fun a hS => st_skip hS (hS.unwanted rfl rfl rfl rfl) rfl fun a hS => st_skip hS (hS.unwanted rfl rfl rfl rfl) rfl fun a hS => st_skip hS (hS.unwanted rfl rfl rfl rfl) rfl fun a hS => st_v hS rfl rfl (run_pick_f hS rfl rfl) fun a hS => st_v hS rfl rfl (run_assign hS rfl) fun a hS => wl_nil ?_
  refine wpIn_ret ?_
  repeat (first | refine q_ret ?_ | refine q_block_ret ?_)
  refine hS.done (res1 (fn := Tryz.f192) (r1 := .tmp 4) rfl (rv_tmp hS rfl)) ?_
  refine vb ?_; simp only [onAx, Bool.and_eq_true, decide_eq_true_eq, Bool.false_eq_true, false_iff]; unfold lastOf; omega
set_option maxHeartbeats 2000000 in
set_option maxRecDepth 100000 in
theorem engine_lies  (sxs : SV) (xs : List Int) (p : Span) {w : World} {Fxs : Nat → Prop} (hxs : Sl kInt Fxs w sxs xs) (h0 : 0 < xs.length) (h9 : xs.length ≤ 12) : Ret Tryz.prog 167 [.slice sxs.a xs.length sxs.c, .agg (spanC p).toArray] w (fun v _ => v = .bool (onAx xs p.lo && onAx xs p.hi)) := by
 refine ret_start (n := 15) Tryz.func167 rfl rfl rfl (fun a hS => ?_)
 have Hxs : ∀ W, Below w.heap.size w W → Sl kInt Fxs W sxs xs := fun W hb => hxs.at_ hb
 have hmxs := hxs.len
 refine wpIn_seq ?_
 refine wpIn_region_lit ?_
 refine st_box_agg hS rfl rfl rfl fun W a b0 hS => st_v hS rfl rfl (run_assign hS rfl) fun a hS => wl_nil ?_
 refine wpIn_seq ?_
 refine wpIn_region_lit ?_
 refine st_v hS rfl rfl (run_move hS rfl) fun a hS => st_v hS rfl rfl (run_fieldAddr fa31_0 hS rfl) fun a hS => st_v hS rfl rfl (run_load_one (i := 0) Tryz.isAgg3 hS rfl rfl rfl) fun a hS => st_call (engine_on sxs xs (Hxs _ hS.below) (by assumption) (by assumption)) Tryz.call192 hS rfl rfl rfl fun v W a hR hB hlt hS => ?_
 subst hR
 refine st_v hS rfl rfl (run_move hS rfl) fun a hS => ?_
 refine st_split (d := 9) hS rfl (fun hc1 hS => ?_) (fun hc1 hS => ?_)
 ·
  try simp only [ty] at hc1
  refine st_v hS (hS.wanted rfl rfl rfl) rfl (run_move hS rfl) fun a hS => st_v hS (hS.wanted rfl rfl rfl) rfl (run_fieldAddr fa31_1 hS rfl) fun a hS => st_v hS (hS.wanted rfl rfl rfl) rfl (run_load_one (i := 0) Tryz.isAgg3 hS rfl rfl rfl) fun a hS => st_call (engine_on sxs xs (Hxs _ hS.below) (by assumption) (by assumption)) Tryz.call192 hS (hS.wanted rfl rfl rfl) rfl rfl fun v W a hR hB hlt hS => ?_
  subst hR
  refine st_v hS rfl rfl (run_pick_t hS rfl rfl) fun a hS => st_v hS rfl rfl (run_assign hS rfl) fun a hS => wl_nil ?_
  refine wpIn_ret ?_
  repeat (first | refine q_ret ?_ | refine q_block_ret ?_)
  refine hS.done (res1 (fn := Tryz.f167) (r1 := .tmp 4) rfl (rv_tmp hS rfl)) ?_
  refine vb ?_; simp [hc1]
 ·
  try simp only [ty] at hc1
  refine st_skip hS (hS.unwanted rfl rfl rfl rfl) rfl fun a hS => st_skip hS (hS.unwanted rfl rfl rfl rfl) rfl fun a hS => st_skip hS (hS.unwanted rfl rfl rfl rfl) rfl fun a hS => st_skip hS (hS.unwanted rfl rfl rfl rfl) rfl fun a hS => st_v hS rfl rfl (run_pick_f hS rfl rfl) fun a hS => st_v hS rfl rfl (run_assign hS rfl) fun a hS => wl_nil ?_
  refine wpIn_ret ?_
  repeat (first | refine q_ret ?_ | refine q_block_ret ?_)
  refine hS.done (res1 (fn := Tryz.f167) (r1 := .tmp 4) rfl (rv_tmp hS rfl)) ?_
  refine vb ?_; simp [hc1]
set_option maxHeartbeats 4000000 in
set_option maxRecDepth 100000 in
theorem engine_checkCraft  (Vr : RV) (r : Rot) (c : Cr) {w : World} {Fr : Nat → Prop} (hr : RotR Fr w Vr r)  : Ret Tryz.prog 120 [.agg (craftC Vr r c).toArray] w (fun v _ => v = .int .i64 (craftE r c)) := by
 refine ret_start (n := 80) Tryz.func120 rfl rfl rfl (fun a hS => ?_)
 have Hr : ∀ W, Below w.heap.size w W → RotR Fr W Vr r := fun W hb => hr.move (keep_of hb)
 refine wpIn_seq ?_
 refine wpIn_region_lit ?_
 refine st_box_agg hS rfl rfl rfl fun W a b0 hS => st_v hS rfl rfl (run_assign hS rfl) fun a hS => wl_nil ?_
 refine wpIn_seq ?_
 refine wpIn_seq ?_
 refine wpIn_region_lit ?_
 refine st_v hS rfl rfl (run_fieldAddr fa29_0 hS rfl) fun a hS => st_v hS rfl rfl (run_load_agg (i := 0) (vs := [_, _, _, _, _, _, _, _, _, _, _, _, _, _, _, _, _, _, _, _, _, _, _, _, _, _]) Tryz.isAgg27 Tryz.sizeOf27 hS rfl rfl rfl ⟨rfl, rfl, rfl, rfl, rfl, rfl, rfl, rfl, rfl, rfl, rfl, rfl, rfl, rfl, rfl, rfl, rfl, rfl, rfl, rfl, rfl, rfl, rfl, rfl, rfl, rfl, trivial⟩) fun a hS => st_call (rotor_Check Vr r (Hr _ hS.below)) Tryz.call154 hS rfl rfl rfl fun v W a hR hB hlt hS => ?_
 subst hR
 refine st_v hS rfl rfl (run_assign hS rfl) fun a hS => wl_nil ?_
 refine wpIn_seq ?_
 refine wpIn_region_lit ?_
 refine st_v hS rfl rfl (run_move hS rfl) fun a hS => st_v hS rfl rfl (run_bin hS rfl rfl rfl) fun a hS => wl_nil ?_
 refine st_cond hS rfl (fun hc1 => ?_) (fun hc1 => ?_)
 ·
  try simp only [ty] at hc1
  refine wpIn_seq ?_
  refine wpIn_region_lit ?_
  refine st_v hS rfl rfl (run_move hS rfl) fun a hS => st_v hS rfl rfl (run_assign hS rfl) fun a hS => wl_nil ?_
  refine wpIn_ret ?_
  repeat (first | refine q_ret ?_ | refine q_block_ret ?_)
  refine hS.done (res1 (fn := Tryz.f120) (r1 := .tmp 2) rfl (rv_tmp hS rfl)) ?_
  have hE : craftE r c = 20 := by simp [craftE, chk_no hc1]
  rw [hE]; simp [checkRot, chk_no hc1]
 ·
  try simp only [ty] at hc1
  have hrok := chk_ok hc1
  have hRp := rot_p hrok
  have hx := (tab_axes hRp.level.1).1; have hy := (tab_axes hRp.low.1).1
  have hx2 := hx.two; have hx9 := hx.most; have hy2 := hy.two; have hy9 := hy.most
  have hx0 : 0 < r.level.X.length := by omega
  have hy0 : 0 < r.low.X.length := by omega
  refine wpIn_skip ?_
  refine wpIn_seq ?_
  refine wpIn_seq ?_
  refine wpIn_region_lit ?_
  refine st_v hS rfl rfl (run_fieldAddr fa29_1 hS rfl) fun a hS => st_v hS rfl rfl (run_load_one (i := 0) Tryz.isAgg3 hS rfl rfl rfl) fun a hS => st_call (engine_within) Tryz.call152 hS rfl rfl rfl fun v W a hR hB hlt hS => ?_
  subst hR
  refine st_v hS rfl rfl (run_not hS rfl) fun a hS => st_v hS rfl rfl (run_move hS rfl) fun a hS => ?_
  refine st_split (d := 15) hS rfl (fun hc2 hS => ?_) (fun hc2 hS => ?_)
  ·
   try simp only [ty] at hc2
   refine st_skip hS (hS.unwanted rfl rfl rfl rfl) rfl fun a hS => st_skip hS (hS.unwanted rfl rfl rfl rfl) rfl fun a hS => st_skip hS (hS.unwanted rfl rfl rfl rfl) rfl fun a hS => st_skip hS (hS.unwanted rfl rfl rfl rfl) rfl fun a hS => st_v hS rfl rfl (run_pick_t hS rfl rfl) fun a hS => st_v hS rfl rfl (run_move hS rfl) fun a hS => st_skip hS (hS.unwanted rfl rfl rfl rfl) rfl fun a hS => st_skip hS (hS.unwanted rfl rfl rfl rfl) rfl fun a hS => st_skip hS (hS.unwanted rfl rfl rfl rfl) rfl fun a hS => st_skip hS (hS.unwanted rfl rfl rfl rfl) rfl fun a hS => st_v hS rfl rfl (run_pick_t hS rfl rfl) fun a hS => st_v hS rfl rfl (run_move hS rfl) fun a hS => st_skip hS (hS.unwanted rfl rfl rfl rfl) rfl fun a hS => st_skip hS (hS.unwanted rfl rfl rfl rfl) rfl fun a hS => st_skip hS (hS.unwanted rfl rfl rfl rfl) rfl fun a hS => st_skip hS (hS.unwanted rfl rfl rfl rfl) rfl fun a hS => st_v hS rfl rfl (run_pick_t hS rfl rfl) fun a hS => st_v hS rfl rfl (run_move hS rfl) fun a hS => st_skip hS (hS.unwanted rfl rfl rfl rfl) rfl fun a hS => st_skip hS (hS.unwanted rfl rfl rfl rfl) rfl fun a hS => st_skip hS (hS.unwanted rfl rfl rfl rfl) rfl fun a hS => st_skip hS (hS.unwanted rfl rfl rfl rfl) rfl fun a hS => st_v hS rfl rfl (run_pick_t hS rfl rfl) fun a hS => st_v hS rfl rfl (run_move hS rfl) fun a hS => st_skip hS (hS.unwanted rfl rfl rfl rfl) rfl fun a hS => st_skip hS (hS.unwanted rfl rfl rfl rfl) rfl fun a hS => st_skip hS (hS.unwanted rfl rfl rfl rfl) rfl fun a hS => st_skip hS (hS.unwanted rfl rfl rfl rfl) rfl fun a hS => st_skip hS (hS.unwanted rfl rfl rfl rfl) rfl fun a hS => st_skip hS (hS.unwanted rfl rfl rfl rfl) rfl fun a hS => st_v hS rfl rfl (run_pick_t hS rfl rfl) fun a hS => st_v hS rfl rfl (run_move hS rfl) fun a hS => st_skip hS (hS.unwanted rfl rfl rfl rfl) rfl fun a hS => st_skip hS (hS.unwanted rfl rfl rfl rfl) rfl fun a hS => st_skip hS (hS.unwanted rfl rfl rfl rfl) rfl fun a hS => st_skip hS (hS.unwanted rfl rfl rfl rfl) rfl fun a hS => st_skip hS (hS.unwanted rfl rfl rfl rfl) rfl fun a hS => st_skip hS (hS.unwanted rfl rfl rfl rfl) rfl fun a hS => st_v hS rfl rfl (run_pick_t hS rfl rfl) fun a hS => wl_nil ?_
   have hS := hS.sub (κ' := [(0, _), (1, _), (2, _), (3, _), (54, _)]) (Sub.cons rfl (Sub.cons rfl (Sub.cons rfl (Sub.cons rfl (Sub.cons rfl Sub.nil)))))
   refine st_cond_t hS rfl ?_
   refine wpIn_seq ?_
   refine wpIn_region_lit ?_
   refine st_v hS rfl rfl (run_assign hS rfl) fun a hS => wl_nil ?_
   refine wpIn_ret ?_
   repeat (first | refine q_ret ?_ | refine q_block_ret ?_)
   refine hS.done (res1 (fn := Tryz.f120) (r1 := .tmp 2) rfl (rv_tmp hS rfl)) ?_
   have hn : numOk c = false := by simp [numOk, hc1, hc2]
   have hE : craftE r c = 30 := by simp [craftE, craftOk, hrok, hn]
   rw [hE]
  ·
   try simp only [ty] at hc2
   refine st_v hS (hS.wanted rfl rfl rfl) rfl (run_fieldAddr fa29_2 hS rfl) fun a hS => st_v hS (hS.wanted rfl rfl rfl) rfl (run_load_one (i := 0) Tryz.isAgg3 hS rfl rfl rfl) fun a hS => st_call (engine_within) Tryz.call152 hS (hS.wanted rfl rfl rfl) rfl rfl fun v W a hR hB hlt hS => ?_
   subst hR
   refine st_v hS (hS.wanted rfl rfl rfl) rfl (run_not hS rfl) fun a hS => st_v hS rfl rfl (run_pick_f hS rfl rfl) fun a hS => st_v hS rfl rfl (run_move hS rfl) fun a hS => ?_
   refine st_split (d := 21) hS rfl (fun hc3 hS => ?_) (fun hc3 hS => ?_)
   ·
    try simp only [ty] at hc3
    refine st_skip hS (hS.unwanted rfl rfl rfl rfl) rfl fun a hS => st_skip hS (hS.unwanted rfl rfl rfl rfl) rfl fun a hS => st_skip hS (hS.unwanted rfl rfl rfl rfl) rfl fun a hS => st_skip hS (hS.unwanted rfl rfl rfl rfl) rfl fun a hS => st_v hS rfl rfl (run_pick_t hS rfl rfl) fun a hS => st_v hS rfl rfl (run_move hS rfl) fun a hS => st_skip hS (hS.unwanted rfl rfl rfl rfl) rfl fun a hS => st_skip hS (hS.unwanted rfl rfl rfl rfl) rfl fun a hS => st_skip hS (hS.unwanted rfl rfl rfl rfl) rfl fun a hS => st_skip hS (hS.unwanted rfl rfl rfl rfl) rfl fun a hS => st_v hS rfl rfl (run_pick_t hS rfl rfl) fun a hS => st_v hS rfl rfl (run_move hS rfl) fun a hS => st_skip hS (hS.unwanted rfl rfl rfl rfl) rfl fun a hS => st_skip hS (hS.unwanted rfl rfl rfl rfl) rfl fun a hS => st_skip hS (hS.unwanted rfl rfl rfl rfl) rfl fun a hS => st_skip hS (hS.unwanted rfl rfl rfl rfl) rfl fun a hS => st_v hS rfl rfl (run_pick_t hS rfl rfl) fun a hS => st_v hS rfl rfl (run_move hS rfl) fun a hS => st_skip hS (hS.unwanted rfl rfl rfl rfl) rfl fun a hS => st_skip hS (hS.unwanted rfl rfl rfl rfl) rfl fun a hS => st_skip hS (hS.unwanted rfl rfl rfl rfl) rfl fun a hS => st_skip hS (hS.unwanted rfl rfl rfl rfl) rfl fun a hS => st_skip hS (hS.unwanted rfl rfl rfl rfl) rfl fun a hS => st_skip hS (hS.unwanted rfl rfl rfl rfl) rfl fun a hS => st_v hS rfl rfl (run_pick_t hS rfl rfl) fun a hS => st_v hS rfl rfl (run_move hS rfl) fun a hS => st_skip hS (hS.unwanted rfl rfl rfl rfl) rfl fun a hS => st_skip hS (hS.unwanted rfl rfl rfl rfl) rfl fun a hS => st_skip hS (hS.unwanted rfl rfl rfl rfl) rfl fun a hS => st_skip hS (hS.unwanted rfl rfl rfl rfl) rfl fun a hS => st_skip hS (hS.unwanted rfl rfl rfl rfl) rfl fun a hS => st_skip hS (hS.unwanted rfl rfl rfl rfl) rfl fun a hS => st_v hS rfl rfl (run_pick_t hS rfl rfl) fun a hS => wl_nil ?_
    have hS := hS.sub (κ' := [(0, _), (1, _), (2, _), (3, _), (54, _)]) (Sub.cons rfl (Sub.cons rfl (Sub.cons rfl (Sub.cons rfl (Sub.cons rfl Sub.nil)))))
    refine st_cond_t hS rfl ?_
    refine wpIn_seq ?_
    refine wpIn_region_lit ?_
    refine st_v hS rfl rfl (run_assign hS rfl) fun a hS => wl_nil ?_
    refine wpIn_ret ?_
    repeat (first | refine q_ret ?_ | refine q_block_ret ?_)
    refine hS.done (res1 (fn := Tryz.f120) (r1 := .tmp 2) rfl (rv_tmp hS rfl)) ?_
    have hn : numOk c = false := by simp [numOk, hc1, hc2, hc3]
    have hE : craftE r c = 30 := by simp [craftE, craftOk, hrok, hn]
    rw [hE]
   ·
    try simp only [ty] at hc3
    refine st_v hS (hS.wanted rfl rfl rfl) rfl (run_fieldAddr fa29_3 hS rfl) fun a hS => st_v hS (hS.wanted rfl rfl rfl) rfl (run_load_one (i := 0) Tryz.isAgg3 hS rfl rfl rfl) fun a hS => st_call (engine_within) Tryz.call152 hS (hS.wanted rfl rfl rfl) rfl rfl fun v W a hR hB hlt hS => ?_
    subst hR
    refine st_v hS (hS.wanted rfl rfl rfl) rfl (run_not hS rfl) fun a hS => st_v hS rfl rfl (run_pick_f hS rfl rfl) fun a hS => st_v hS rfl rfl (run_move hS rfl) fun a hS => ?_
    refine st_split (d := 27) hS rfl (fun hc4 hS => ?_) (fun hc4 hS => ?_)
    ·
     try simp only [ty] at hc4
     refine st_skip hS (hS.unwanted rfl rfl rfl rfl) rfl fun a hS => st_skip hS (hS.unwanted rfl rfl rfl rfl) rfl fun a hS => st_skip hS (hS.unwanted rfl rfl rfl rfl) rfl fun a hS => st_skip hS (hS.unwanted rfl rfl rfl rfl) rfl fun a hS => st_v hS rfl rfl (run_pick_t hS rfl rfl) fun a hS => st_v hS rfl rfl (run_move hS rfl) fun a hS => st_skip hS (hS.unwanted rfl rfl rfl rfl) rfl fun a hS => st_skip hS (hS.unwanted rfl rfl rfl rfl) rfl fun a hS => st_skip hS (hS.unwanted rfl rfl rfl rfl) rfl fun a hS => st_skip hS (hS.unwanted rfl rfl rfl rfl) rfl fun a hS => st_v hS rfl rfl (run_pick_t hS rfl rfl) fun a hS => st_v hS rfl rfl (run_move hS rfl) fun a hS => st_skip hS (hS.unwanted rfl rfl rfl rfl) rfl fun a hS => st_skip hS (hS.unwanted rfl rfl rfl rfl) rfl fun a hS => st_skip hS (hS.unwanted rfl rfl rfl rfl) rfl fun a hS => st_skip hS (hS.unwanted rfl rfl rfl rfl) rfl fun a hS => st_skip hS (hS.unwanted rfl rfl rfl rfl) rfl fun a hS => st_skip hS (hS.unwanted rfl rfl rfl rfl) rfl fun a hS => st_v hS rfl rfl (run_pick_t hS rfl rfl) fun a hS => st_v hS rfl rfl (run_move hS rfl) fun a hS => st_skip hS (hS.unwanted rfl rfl rfl rfl) rfl fun a hS => st_skip hS (hS.unwanted rfl rfl rfl rfl) rfl fun a hS => st_skip hS (hS.unwanted rfl rfl rfl rfl) rfl fun a hS => st_skip hS (hS.unwanted rfl rfl rfl rfl) rfl fun a hS => st_skip hS (hS.unwanted rfl rfl rfl rfl) rfl fun a hS => st_skip hS (hS.unwanted rfl rfl rfl rfl) rfl fun a hS => st_v hS rfl rfl (run_pick_t hS rfl rfl) fun a hS => wl_nil ?_
     have hS := hS.sub (κ' := [(0, _), (1, _), (2, _), (3, _), (54, _)]) (Sub.cons rfl (Sub.cons rfl (Sub.cons rfl (Sub.cons rfl (Sub.cons rfl Sub.nil)))))
     refine st_cond_t hS rfl ?_
     refine wpIn_seq ?_
     refine wpIn_region_lit ?_
     refine st_v hS rfl rfl (run_assign hS rfl) fun a hS => wl_nil ?_
     refine wpIn_ret ?_
     repeat (first | refine q_ret ?_ | refine q_block_ret ?_)
     refine hS.done (res1 (fn := Tryz.f120) (r1 := .tmp 2) rfl (rv_tmp hS rfl)) ?_
     have hn : numOk c = false := by simp [numOk, hc1, hc2, hc3, hc4]
     have hE : craftE r c = 30 := by simp [craftE, craftOk, hrok, hn]
     rw [hE]
    ·
     try simp only [ty] at hc4
     refine st_v hS (hS.wanted rfl rfl rfl) rfl (run_fieldAddr fa29_4 hS rfl) fun a hS => st_v hS (hS.wanted rfl rfl rfl) rfl (run_load_one (i := 0) Tryz.isAgg3 hS rfl rfl rfl) fun a hS => st_call (engine_within) Tryz.call152 hS (hS.wanted rfl rfl rfl) rfl rfl fun v W a hR hB hlt hS => ?_
     subst hR
     refine st_v hS (hS.wanted rfl rfl rfl) rfl (run_not hS rfl) fun a hS => st_v hS rfl rfl (run_pick_f hS rfl rfl) fun a hS => st_v hS rfl rfl (run_move hS rfl) fun a hS => ?_
     refine st_split (d := 33) hS rfl (fun hc5 hS => ?_) (fun hc5 hS => ?_)
     ·
      try simp only [ty] at hc5
      refine st_skip hS (hS.unwanted rfl rfl rfl rfl) rfl fun a hS => st_skip hS (hS.unwanted rfl rfl rfl rfl) rfl fun a hS => st_skip hS (hS.unwanted rfl rfl rfl rfl) rfl fun a hS => st_skip hS (hS.unwanted rfl rfl rfl rfl) rfl fun a hS => st_v hS rfl rfl (run_pick_t hS rfl rfl) fun a hS => st_v hS rfl rfl (run_move hS rfl) fun a hS => st_skip hS (hS.unwanted rfl rfl rfl rfl) rfl fun a hS => st_skip hS (hS.unwanted rfl rfl rfl rfl) rfl fun a hS => st_skip hS (hS.unwanted rfl rfl rfl rfl) rfl fun a hS => st_skip hS (hS.unwanted rfl rfl rfl rfl) rfl fun a hS => st_skip hS (hS.unwanted rfl rfl rfl rfl) rfl fun a hS => st_skip hS (hS.unwanted rfl rfl rfl rfl) rfl fun a hS => st_v hS rfl rfl (run_pick_t hS rfl rfl) fun a hS => st_v hS rfl rfl (run_move hS rfl) fun a hS => st_skip hS (hS.unwanted rfl rfl rfl rfl) rfl fun a hS => st_skip hS (hS.unwanted rfl rfl rfl rfl) rfl fun a hS => st_skip hS (hS.unwanted rfl rfl rfl rfl) rfl fun a hS => st_skip hS (hS.unwanted rfl rfl rfl rfl) rfl fun a hS => st_skip hS (hS.unwanted rfl rfl rfl rfl) rfl fun a hS => st_skip hS (hS.unwanted rfl rfl rfl rfl) rfl fun a hS => st_v hS rfl rfl (run_pick_t hS rfl rfl) fun a hS => wl_nil ?_
      have hS := hS.sub (κ' := [(0, _), (1, _), (2, _), (3, _), (54, _)]) (Sub.cons rfl (Sub.cons rfl (Sub.cons rfl (Sub.cons rfl (Sub.cons rfl Sub.nil)))))
      refine st_cond_t hS rfl ?_
      refine wpIn_seq ?_
      refine wpIn_region_lit ?_
      refine st_v hS rfl rfl (run_assign hS rfl) fun a hS => wl_nil ?_
      refine wpIn_ret ?_
      repeat (first | refine q_ret ?_ | refine q_block_ret ?_)
      refine hS.done (res1 (fn := Tryz.f120) (r1 := .tmp 2) rfl (rv_tmp hS rfl)) ?_
      have hn : numOk c = false := by simp [numOk, hc1, hc2, hc3, hc4, hc5]
      have hE : craftE r c = 30 := by simp [craftE, craftOk, hrok, hn]
      rw [hE]
     ·
      try simp only [ty] at hc5
      refine st_v hS (hS.wanted rfl rfl rfl) rfl (run_fieldAddr fa29_5 hS rfl) fun a hS => st_v hS (hS.wanted rfl rfl rfl) rfl (run_load_one (i := 0) Tryz.isAgg3 hS rfl rfl rfl) fun a hS => st_call (engine_within) Tryz.call152 hS (hS.wanted rfl rfl rfl) rfl rfl fun v W a hR hB hlt hS => ?_
      subst hR
      refine st_v hS (hS.wanted rfl rfl rfl) rfl (run_not hS rfl) fun a hS => st_v hS rfl rfl (run_pick_f hS rfl rfl) fun a hS => st_v hS rfl rfl (run_move hS rfl) fun a hS => ?_
      refine st_split (d := 39) hS rfl (fun hc6 hS => ?_) (fun hc6 hS => ?_)
      ·
       try simp only [ty] at hc6
       refine st_skip hS (hS.unwanted rfl rfl rfl rfl) rfl fun a hS => st_skip hS (hS.unwanted rfl rfl rfl rfl) rfl fun a hS => st_skip hS (hS.unwanted rfl rfl rfl rfl) rfl fun a hS => st_skip hS (hS.unwanted rfl rfl rfl rfl) rfl fun a hS => st_skip hS (hS.unwanted rfl rfl rfl rfl) rfl fun a hS => st_skip hS (hS.unwanted rfl rfl rfl rfl) rfl fun a hS => st_v hS rfl rfl (run_pick_t hS rfl rfl) fun a hS => st_v hS rfl rfl (run_move hS rfl) fun a hS => st_skip hS (hS.unwanted rfl rfl rfl rfl) rfl fun a hS => st_skip hS (hS.unwanted rfl rfl rfl rfl) rfl fun a hS => st_skip hS (hS.unwanted rfl rfl rfl rfl) rfl fun a hS => st_skip hS (hS.unwanted rfl rfl rfl rfl) rfl fun a hS => st_skip hS (hS.unwanted rfl rfl rfl rfl) rfl fun a hS => st_skip hS (hS.unwanted rfl rfl rfl rfl) rfl fun a hS => st_v hS rfl rfl (run_pick_t hS rfl rfl) fun a hS => wl_nil ?_
       have hS := hS.sub (κ' := [(0, _), (1, _), (2, _), (3, _), (54, _)]) (Sub.cons rfl (Sub.cons rfl (Sub.cons rfl (Sub.cons rfl (Sub.cons rfl Sub.nil)))))
       refine st_cond_t hS rfl ?_
       refine wpIn_seq ?_
       refine wpIn_region_lit ?_
       refine st_v hS rfl rfl (run_assign hS rfl) fun a hS => wl_nil ?_
       refine wpIn_ret ?_
       repeat (first | refine q_ret ?_ | refine q_block_ret ?_)
       refine hS.done (res1 (fn := Tryz.f120) (r1 := .tmp 2) rfl (rv_tmp hS rfl)) ?_
       have hn : numOk c = false := by simp [numOk, hc1, hc2, hc3, hc4, hc5, hc6]
       have hE : craftE r c = 30 := by simp [craftE, craftOk, hrok, hn]
       rw [hE]
      ·
       try simp only [ty] at hc6
       refine st_v hS (hS.wanted rfl rfl rfl) rfl (run_fieldAddr fa29_6 hS rfl) fun a hS => st_v hS (hS.wanted rfl rfl rfl) rfl (run_load_one (i := 0) Tryz.isAgg3 hS rfl rfl rfl) fun a hS => st_v hS (hS.wanted rfl rfl rfl) rfl (run_fieldAddr fa29_4 hS rfl) fun a hS => st_v hS (hS.wanted rfl rfl rfl) rfl (run_load_one (i := 0) Tryz.isAgg3 hS rfl rfl rfl) fun a hS => st_call (engine_within) Tryz.call152 hS (hS.wanted rfl rfl rfl) rfl rfl fun v W a hR hB hlt hS => ?_
       subst hR
       refine st_v hS (hS.wanted rfl rfl rfl) rfl (run_not hS rfl) fun a hS => st_v hS rfl rfl (run_pick_f hS rfl rfl) fun a hS => st_v hS rfl rfl (run_move hS rfl) fun a hS => ?_
       refine st_split (d := 47) hS rfl (fun hc7 hS => ?_) (fun hc7 hS => ?_)
       ·
        try simp only [ty] at hc7
        refine st_skip hS (hS.unwanted rfl rfl rfl rfl) rfl fun a hS => st_skip hS (hS.unwanted rfl rfl rfl rfl) rfl fun a hS => st_skip hS (hS.unwanted rfl rfl rfl rfl) rfl fun a hS => st_skip hS (hS.unwanted rfl rfl rfl rfl) rfl fun a hS => st_skip hS (hS.unwanted rfl rfl rfl rfl) rfl fun a hS => st_skip hS (hS.unwanted rfl rfl rfl rfl) rfl fun a hS => st_v hS rfl rfl (run_pick_t hS rfl rfl) fun a hS => wl_nil ?_
        have hS := hS.sub (κ' := [(0, _), (1, _), (2, _), (3, _), (54, _)]) (Sub.cons rfl (Sub.cons rfl (Sub.cons rfl (Sub.cons rfl (Sub.cons rfl Sub.nil)))))
        refine st_cond_t hS rfl ?_
        refine wpIn_seq ?_
        refine wpIn_region_lit ?_
        refine st_v hS rfl rfl (run_assign hS rfl) fun a hS => wl_nil ?_
        refine wpIn_ret ?_
        repeat (first | refine q_ret ?_ | refine q_block_ret ?_)
        refine hS.done (res1 (fn := Tryz.f120) (r1 := .tmp 2) rfl (rv_tmp hS rfl)) ?_
        have hn : numOk c = false := by simp [numOk, hc1, hc2, hc3, hc4, hc5, hc6, hc7]
        have hE : craftE r c = 30 := by simp [craftE, craftOk, hrok, hn]
        rw [hE]
       ·
        try simp only [ty] at hc7
        refine st_v hS (hS.wanted rfl rfl rfl) rfl (run_fieldAddr fa29_7 hS rfl) fun a hS => st_v hS (hS.wanted rfl rfl rfl) rfl (run_load_one (i := 0) Tryz.isAgg3 hS rfl rfl rfl) fun a hS => st_v hS (hS.wanted rfl rfl rfl) rfl (run_fieldAddr fa29_5 hS rfl) fun a hS => st_v hS (hS.wanted rfl rfl rfl) rfl (run_load_one (i := 0) Tryz.isAgg3 hS rfl rfl rfl) fun a hS => st_call (engine_within) Tryz.call152 hS (hS.wanted rfl rfl rfl) rfl rfl fun v W a hR hB hlt hS => ?_
        subst hR
        refine st_v hS (hS.wanted rfl rfl rfl) rfl (run_not hS rfl) fun a hS => st_v hS rfl rfl (run_pick_f hS rfl rfl) fun a hS => wl_nil ?_
        have hS := hS.sub (κ' := [(0, _), (1, _), (2, _), (3, _), (54, _)]) (Sub.cons rfl (Sub.cons rfl (Sub.cons rfl (Sub.cons rfl (Sub.cons rfl Sub.nil)))))
        refine st_cond hS rfl (fun hc8 => ?_) (fun hc8 => ?_)
        ·
         try simp only [ty] at hc8
         refine wpIn_seq ?_
         refine wpIn_region_lit ?_
         refine st_v hS rfl rfl (run_assign hS rfl) fun a hS => wl_nil ?_
         refine wpIn_ret ?_
         repeat (first | refine q_ret ?_ | refine q_block_ret ?_)
         refine hS.done (res1 (fn := Tryz.f120) (r1 := .tmp 2) rfl (rv_tmp hS rfl)) ?_
         have hn : numOk c = false := by simp [numOk, hc1, hc2, hc3, hc4, hc5, hc6, hc7, hc8]
         have hE : craftE r c = 30 := by simp [craftE, craftOk, hrok, hn]
         rw [hE]
        ·
         try simp only [ty] at hc8
         have hn : numOk c = true := by simp [numOk, hc1, hc2, hc3, hc4, hc5, hc6, hc7, hc8]
         have hp := num_p hn
         have hpr := prod_in (a := c.top) (b := c.unit) (A := 6) (B := 1000) (by have := hp.top; omega) hp.top.2 (by have := hp.unit; omega) hp.unit.2
         refine wpIn_skip ?_
         refine wpIn_seq ?_
         refine wpIn_seq ?_
         refine wpIn_region_lit ?_
         refine st_v hS rfl rfl (run_fieldAddr fa29_0 hS rfl) fun a hS => st_v hS rfl rfl (run_fieldAddr fa27_2 hS rfl) fun a hS => st_v hS rfl rfl (run_fieldAddr fa25_0 hS rfl) fun a hS => st_v hS rfl rfl (run_load_one (i := 0) Tryz.isAgg22 hS rfl rfl rfl) fun a hS => st_v hS rfl rfl (run_assign hS rfl) fun a hS => wl_nil ?_
         refine wpIn_seq ?_
         refine wpIn_region_lit ?_
         refine st_v hS rfl rfl (run_move hS rfl) fun a hS => st_call (engine_on Vr.level.x r.level.X ((fun W hC => ((fun W hC => (Hr W hC).level) W hC).1) _ hS.below) (by omega) (by omega)) Tryz.call192 hS rfl rfl rfl fun v W a hR hB hlt hS => ?_
         subst hR
         refine st_v hS rfl rfl (run_not hS rfl) fun a hS => st_v hS rfl rfl (run_move hS rfl) fun a hS => ?_
         refine st_split (d := 62) hS rfl (fun hc9 hS => ?_) (fun hc9 hS => ?_)
         ·
          try simp only [ty] at hc9
          refine st_skip hS (hS.unwanted rfl rfl rfl rfl) rfl fun a hS => st_skip hS (hS.unwanted rfl rfl rfl rfl) rfl fun a hS => st_skip hS (hS.unwanted rfl rfl rfl rfl) rfl fun a hS => st_skip hS (hS.unwanted rfl rfl rfl rfl) rfl fun a hS => st_skip hS (hS.unwanted rfl rfl rfl rfl) rfl fun a hS => st_skip hS (hS.unwanted rfl rfl rfl rfl) rfl fun a hS => st_skip hS (hS.unwanted rfl rfl rfl rfl) rfl fun a hS => st_skip hS (hS.unwanted rfl rfl rfl rfl) rfl fun a hS => st_v hS rfl rfl (run_pick_t hS rfl rfl) fun a hS => st_v hS rfl rfl (run_move hS rfl) fun a hS => st_skip hS (hS.unwanted rfl rfl rfl rfl) rfl fun a hS => st_skip hS (hS.unwanted rfl rfl rfl rfl) rfl fun a hS => st_skip hS (hS.unwanted rfl rfl rfl rfl) rfl fun a hS => st_skip hS (hS.unwanted rfl rfl rfl rfl) rfl fun a hS => st_skip hS (hS.unwanted rfl rfl rfl rfl) rfl fun a hS => st_skip hS (hS.unwanted rfl rfl rfl rfl) rfl fun a hS => st_v hS rfl rfl (run_pick_t hS rfl rfl) fun a hS => wl_nil ?_
          have hS := hS.sub (κ' := [(0, _), (1, _), (2, _), (3, _), (4, _), (79, _)]) (Sub.cons rfl (Sub.cons rfl (Sub.cons rfl (Sub.cons rfl (Sub.cons rfl (Sub.cons rfl Sub.nil))))))
          refine st_cond_t hS rfl ?_
          refine wpIn_seq ?_
          refine wpIn_region_lit ?_
          refine st_v hS rfl rfl (run_assign hS rfl) fun a hS => wl_nil ?_
          refine wpIn_ret ?_
          repeat (first | refine q_ret ?_ | refine q_block_ret ?_)
          refine hS.done (res1 (fn := Tryz.f120) (r1 := .tmp 2) rfl (rv_tmp hS rfl)) ?_
          have hE : craftE r c = 30 := by simp [craftE, craftOk, hrok, hn, lies_ax (show (0 : Int) ≤ c.top * c.unit by omega), lies_ax (Int.le_refl (0 : Int)), hc1, hc2, hc3, hc4, hc5, hc6, hc7, hc8, hc9]
          rw [hE]
         ·
          try simp only [ty] at hc9
          refine st_v hS (hS.wanted rfl rfl rfl) rfl (run_move hS rfl) fun a hS => st_v hS (hS.wanted rfl rfl rfl) rfl (run_fieldAddr fa29_4 hS rfl) fun a hS => st_v hS (hS.wanted rfl rfl rfl) rfl (run_load_one (i := 0) Tryz.isAgg3 hS rfl rfl rfl) fun a hS => st_v hS (hS.wanted rfl rfl rfl) rfl (run_fieldAddr fa29_2 hS rfl) fun a hS => st_v hS (hS.wanted rfl rfl rfl) rfl (run_load_one (i := 0) Tryz.isAgg3 hS rfl rfl rfl) fun a hS => st_v hS (hS.wanted rfl rfl rfl) rfl (run_mul (t := (c.top * c.unit)) hS rfl rfl (by rfl) (by omega)) fun a hS => st_call (engine_on Vr.level.x r.level.X ((fun W hC => ((fun W hC => (Hr W hC).level) W hC).1) _ hS.below) (by omega) (by omega)) Tryz.call192 hS (hS.wanted rfl rfl rfl) rfl rfl fun v W a hR hB hlt hS => ?_
          subst hR
          refine st_v hS (hS.wanted rfl rfl rfl) rfl (run_not hS rfl) fun a hS => st_v hS rfl rfl (run_pick_f hS rfl rfl) fun a hS => st_v hS rfl rfl (run_move hS rfl) fun a hS => ?_
          refine st_split (d := 72) hS rfl (fun hc10 hS => ?_) (fun hc10 hS => ?_)
          ·
           try simp only [ty] at hc10
           refine st_skip hS (hS.unwanted rfl rfl rfl rfl) rfl fun a hS => st_skip hS (hS.unwanted rfl rfl rfl rfl) rfl fun a hS => st_skip hS (hS.unwanted rfl rfl rfl rfl) rfl fun a hS => st_skip hS (hS.unwanted rfl rfl rfl rfl) rfl fun a hS => st_skip hS (hS.unwanted rfl rfl rfl rfl) rfl fun a hS => st_skip hS (hS.unwanted rfl rfl rfl rfl) rfl fun a hS => st_v hS rfl rfl (run_pick_t hS rfl rfl) fun a hS => wl_nil ?_
           have hS := hS.sub (κ' := [(0, _), (1, _), (2, _), (3, _), (4, _), (79, _)]) (Sub.cons rfl (Sub.cons rfl (Sub.cons rfl (Sub.cons rfl (Sub.cons rfl (Sub.cons rfl Sub.nil))))))
           refine st_cond_t hS rfl ?_
           refine wpIn_seq ?_
           refine wpIn_region_lit ?_
           refine st_v hS rfl rfl (run_assign hS rfl) fun a hS => wl_nil ?_
           refine wpIn_ret ?_
           repeat (first | refine q_ret ?_ | refine q_block_ret ?_)
           refine hS.done (res1 (fn := Tryz.f120) (r1 := .tmp 2) rfl (rv_tmp hS rfl)) ?_
           have hE : craftE r c = 30 := by simp [craftE, craftOk, hrok, hn, lies_ax (show (0 : Int) ≤ c.top * c.unit by omega), lies_ax (Int.le_refl (0 : Int)), hc1, hc2, hc3, hc4, hc5, hc6, hc7, hc8, hc9, hc10]
           rw [hE]
          ·
           try simp only [ty] at hc10
           refine st_v hS (hS.wanted rfl rfl rfl) rfl (run_fieldAddr fa29_0 hS rfl) fun a hS => st_v hS (hS.wanted rfl rfl rfl) rfl (run_fieldAddr fa27_5 hS rfl) fun a hS => st_v hS (hS.wanted rfl rfl rfl) rfl (run_fieldAddr fa25_0 hS rfl) fun a hS => st_v hS (hS.wanted rfl rfl rfl) rfl (run_load_one (i := 0) Tryz.isAgg22 hS rfl rfl rfl) fun a hS => st_call (engine_on Vr.low.x r.low.X ((fun W hC => ((fun W hC => (Hr W hC).low) W hC).1) _ hS.below) (by omega) (by omega)) Tryz.call192 hS (hS.wanted rfl rfl rfl) rfl rfl fun v W a hR hB hlt hS => ?_
           subst hR
           refine st_v hS (hS.wanted rfl rfl rfl) rfl (run_not hS rfl) fun a hS => st_v hS rfl rfl (run_pick_f hS rfl rfl) fun a hS => wl_nil ?_
           have hS := hS.sub (κ' := [(0, _), (1, _), (2, _), (3, _), (4, _), (79, _)]) (Sub.cons rfl (Sub.cons rfl (Sub.cons rfl (Sub.cons rfl (Sub.cons rfl (Sub.cons rfl Sub.nil))))))
           refine st_cond hS rfl (fun hc11 => ?_) (fun hc11 => ?_)
           ·
            try simp only [ty] at hc11
            refine wpIn_seq ?_
            refine wpIn_region_lit ?_
            refine st_v hS rfl rfl (run_assign hS rfl) fun a hS => wl_nil ?_
            refine wpIn_ret ?_
            repeat (first | refine q_ret ?_ | refine q_block_ret ?_)
            refine hS.done (res1 (fn := Tryz.f120) (r1 := .tmp 2) rfl (rv_tmp hS rfl)) ?_
            have hE : craftE r c = 30 := by simp [craftE, craftOk, hrok, hn, lies_ax (show (0 : Int) ≤ c.top * c.unit by omega), lies_ax (Int.le_refl (0 : Int)), hc1, hc2, hc3, hc4, hc5, hc6, hc7, hc8, hc9, hc10, hc11]
            rw [hE]
           ·
            try simp only [ty] at hc11
            refine wpIn_skip ?_
            refine wpIn_seq ?_
            refine wpIn_region_lit ?_
            refine st_v hS rfl rfl (run_assign hS rfl) fun a hS => wl_nil ?_
            refine wpIn_ret ?_
            repeat (first | refine q_ret ?_ | refine q_block_ret ?_)
            refine hS.done (res1 (fn := Tryz.f120) (r1 := .tmp 2) rfl (rv_tmp hS rfl)) ?_
            have hE : craftE r c = 0 := by simp [craftE, craftOk, hrok, hn, lies_ax (show (0 : Int) ≤ c.top * c.unit by omega), lies_ax (Int.le_refl (0 : Int)), hc1, hc2, hc3, hc4, hc5, hc6, hc7, hc8, hc9, hc10, hc11]
            rw [hE]
set_option maxHeartbeats 2000000 in
set_option maxRecDepth 100000 in
theorem ref03_one  {n : Int} {w : World}   : Ret Tryz.prog 137 [.int .i64 n] w (fun v _ => v = .agg (spanC (one n)).toArray) := by
 refine ret_start (n := 6) Tryz.func137 rfl rfl rfl (fun a hS => ?_)
 refine wpIn_seq ?_
 refine wpIn_region_lit ?_
 refine st_alloc_agg Tryz.zeroValue31 hS rfl rfl fun W a b0 hS => wl_nil ?_
 refine wpIn_seq ?_
 refine wpIn_region_lit ?_
 refine st_v hS rfl rfl (run_move hS rfl) fun a hS => st_v hS rfl rfl (run_move hS rfl) fun a hS => st_v hS rfl rfl (run_build (pv := [(0, .int .i64 _), (1, .int .i64 _)]) (fun W => bd31_0_1 _ _ W) hS rfl) fun a hS => st_store (i := 0) Tryz.sizeOf31 hS rfl rfl rfl rfl rfl rfl rfl rfl rfl fun W a hS => wl_nil ?_
 refine wpIn_ret ?_
 repeat (first | refine q_ret ?_ | refine q_block_ret ?_)
 refine hS.done (res1 (fn := Tryz.f137) (r1 := .cell 2 31) rfl (rv_agg (i := 0) Tryz.isAgg31 Tryz.sizeOf31 hS rfl rfl rfl)) ?_
 rfl
set_option maxHeartbeats 4000000 in
set_option maxRecDepth 100000 in
theorem ref03_checkCraft  (Vr : RV) (r : Rot) (c : Cr) {w : World} {Fr : Nat → Prop} (hr : RotR Fr w Vr r)  : Ret Tryz.prog 122 [.agg (craftC Vr r c).toArray] w (fun v _ => v = .int .i64 (craftE r c)) := by
 refine ret_start (n := 75) Tryz.func122 rfl rfl rfl (fun a hS => ?_)
 have Hr : ∀ W, Below w.heap.size w W → RotR Fr W Vr r := fun W hb => hr.move (keep_of hb)
 refine wpIn_seq ?_
 refine wpIn_region_lit ?_
 refine st_box_agg hS rfl rfl rfl fun W a b0 hS => st_v hS rfl rfl (run_assign hS rfl) fun a hS => wl_nil ?_
 refine wpIn_seq ?_
 refine wpIn_seq ?_
 refine wpIn_region_lit ?_
 refine st_v hS rfl rfl (run_fieldAddr fa29_0 hS rfl) fun a hS => st_v hS rfl rfl (run_load_agg (i := 0) (vs := [_, _, _, _, _, _, _, _, _, _, _, _, _, _, _, _, _, _, _, _, _, _, _, _, _, _]) Tryz.isAgg27 Tryz.sizeOf27 hS rfl rfl rfl ⟨rfl, rfl, rfl, rfl, rfl, rfl, rfl, rfl, rfl, rfl, rfl, rfl, rfl, rfl, rfl, rfl, rfl, rfl, rfl, rfl, rfl, rfl, rfl, rfl, rfl, rfl, trivial⟩) fun a hS => st_call (ref02_Check Vr r (Hr _ hS.below)) Tryz.call99 hS rfl rfl rfl fun v W a hR hB hlt hS => ?_
 subst hR
 refine st_v hS rfl rfl (run_assign hS rfl) fun a hS => wl_nil ?_
 refine wpIn_seq ?_
 refine wpIn_region_lit ?_
 refine st_v hS rfl rfl (run_move hS rfl) fun a hS => st_v hS rfl rfl (run_bin hS rfl rfl rfl) fun a hS => wl_nil ?_
 refine st_cond hS rfl (fun hc1 => ?_) (fun hc1 => ?_)
 ·
  try simp only [ty] at hc1
  refine wpIn_seq ?_
  refine wpIn_region_lit ?_
  refine st_v hS rfl rfl (run_move hS rfl) fun a hS => st_v hS rfl rfl (run_assign hS rfl) fun a hS => wl_nil ?_
  refine wpIn_ret ?_
  repeat (first | refine q_ret ?_ | refine q_block_ret ?_)
  refine hS.done (res1 (fn := Tryz.f122) (r1 := .tmp 2) rfl (rv_tmp hS rfl)) ?_
  have hE : craftE r c = 20 := by simp [craftE, chk_no hc1]
  rw [hE]; simp [checkRot, chk_no hc1]
 ·
  try simp only [ty] at hc1
  have hrok := chk_ok hc1
  have hRp := rot_p hrok
  have hx := (tab_axes hRp.level.1).1; have hy := (tab_axes hRp.low.1).1
  have hx2 := hx.two; have hx9 := hx.most; have hy2 := hy.two; have hy9 := hy.most
  have hx0 : 0 < r.level.X.length := by omega
  have hy0 : 0 < r.low.X.length := by omega
  refine wpIn_skip ?_
  refine wpIn_seq ?_
  refine wpIn_seq ?_
  refine wpIn_region_lit ?_
  refine st_v hS rfl rfl (run_fieldAddr fa29_1 hS rfl) fun a hS => st_v hS rfl rfl (run_load_one (i := 0) Tryz.isAgg3 hS rfl rfl rfl) fun a hS => st_call (ref03_within) Tryz.call139 hS rfl rfl rfl fun v W a hR hB hlt hS => ?_
  subst hR
  refine st_v hS rfl rfl (run_not hS rfl) fun a hS => st_v hS rfl rfl (run_move hS rfl) fun a hS => ?_
  refine st_split (d := 14) hS rfl (fun hc2 hS => ?_) (fun hc2 hS => ?_)
  ·
   try simp only [ty] at hc2
   refine st_skip hS (hS.unwanted rfl rfl rfl rfl) rfl fun a hS => st_skip hS (hS.unwanted rfl rfl rfl rfl) rfl fun a hS => st_skip hS (hS.unwanted rfl rfl rfl rfl) rfl fun a hS => st_skip hS (hS.unwanted rfl rfl rfl rfl) rfl fun a hS => st_v hS rfl rfl (run_pick_t hS rfl rfl) fun a hS => st_v hS rfl rfl (run_move hS rfl) fun a hS => st_skip hS (hS.unwanted rfl rfl rfl rfl) rfl fun a hS => st_skip hS (hS.unwanted rfl rfl rfl rfl) rfl fun a hS => st_skip hS (hS.unwanted rfl rfl rfl rfl) rfl fun a hS => st_skip hS (hS.unwanted rfl rfl rfl rfl) rfl fun a hS => st_v hS rfl rfl (run_pick_t hS rfl rfl) fun a hS => st_v hS rfl rfl (run_move hS rfl) fun a hS => st_skip hS (hS.unwanted rfl rfl rfl rfl) rfl fun a hS => st_skip hS (hS.unwanted rfl rfl rfl rfl) rfl fun a hS => st_skip hS (hS.unwanted rfl rfl rfl rfl) rfl fun a hS => st_skip hS (hS.unwanted rfl rfl rfl rfl) rfl fun a hS => st_v hS rfl rfl (run_pick_t hS rfl rfl) fun a hS => st_v hS rfl rfl (run_move hS rfl) fun a hS => st_skip hS (hS.unwanted rfl rfl rfl rfl) rfl fun a hS => st_skip hS (hS.unwanted rfl rfl rfl rfl) rfl fun a hS => st_skip hS (hS.unwanted rfl rfl rfl rfl) rfl fun a hS => st_skip hS (hS.unwanted rfl rfl rfl rfl) rfl fun a hS => st_v hS rfl rfl (run_pick_t hS rfl rfl) fun a hS => st_v hS rfl rfl (run_move hS rfl) fun a hS => st_skip hS (hS.unwanted rfl rfl rfl rfl) rfl fun a hS => st_skip hS (hS.unwanted rfl rfl rfl rfl) rfl fun a hS => st_skip hS (hS.unwanted rfl rfl rfl rfl) rfl fun a hS => st_skip hS (hS.unwanted rfl rfl rfl rfl) rfl fun a hS => st_skip hS (hS.unwanted rfl rfl rfl rfl) rfl fun a hS => st_skip hS (hS.unwanted rfl rfl rfl rfl) rfl fun a hS => st_v hS rfl rfl (run_pick_t hS rfl rfl) fun a hS => st_v hS rfl rfl (run_move hS rfl) fun a hS => st_skip hS (hS.unwanted rfl rfl rfl rfl) rfl fun a hS => st_skip hS (hS.unwanted rfl rfl rfl rfl) rfl fun a hS => st_skip hS (hS.unwanted rfl rfl rfl rfl) rfl fun a hS => st_skip hS (hS.unwanted rfl rfl rfl rfl) rfl fun a hS => st_skip hS (hS.unwanted rfl rfl rfl rfl) rfl fun a hS => st_skip hS (hS.unwanted rfl rfl rfl rfl) rfl fun a hS => st_v hS rfl rfl (run_pick_t hS rfl rfl) fun a hS => wl_nil ?_
   have hS := hS.sub (κ' := [(0, _), (1, _), (2, _), (3, _), (53, _)]) (Sub.cons rfl (Sub.cons rfl (Sub.cons rfl (Sub.cons rfl (Sub.cons rfl Sub.nil)))))
   refine st_cond_t hS rfl ?_
   refine wpIn_seq ?_
   refine wpIn_region_lit ?_
   refine st_v hS rfl rfl (run_assign hS rfl) fun a hS => wl_nil ?_
   refine wpIn_ret ?_
   repeat (first | refine q_ret ?_ | refine q_block_ret ?_)
   refine hS.done (res1 (fn := Tryz.f122) (r1 := .tmp 2) rfl (rv_tmp hS rfl)) ?_
   have hn : numOk c = false := by simp [numOk, hc1, hc2]
   have hE : craftE r c = 30 := by simp [craftE, craftOk, hrok, hn]
   rw [hE]
  ·
   try simp only [ty] at hc2
   refine st_v hS (hS.wanted rfl rfl rfl) rfl (run_fieldAddr fa29_2 hS rfl) fun a hS => st_v hS (hS.wanted rfl rfl rfl) rfl (run_load_one (i := 0) Tryz.isAgg3 hS rfl rfl rfl) fun a hS => st_call (ref03_within) Tryz.call139 hS (hS.wanted rfl rfl rfl) rfl rfl fun v W a hR hB hlt hS => ?_
   subst hR
   refine st_v hS (hS.wanted rfl rfl rfl) rfl (run_not hS rfl) fun a hS => st_v hS rfl rfl (run_pick_f hS rfl rfl) fun a hS => st_v hS rfl rfl (run_move hS rfl) fun a hS => ?_
   refine st_split (d := 20) hS rfl (fun hc3 hS => ?_) (fun hc3 hS => ?_)
   ·
    try simp only [ty] at hc3
    refine st_skip hS (hS.unwanted rfl rfl rfl rfl) rfl fun a hS => st_skip hS (hS.unwanted rfl rfl rfl rfl) rfl fun a hS => st_skip hS (hS.unwanted rfl rfl rfl rfl) rfl fun a hS => st_skip hS (hS.unwanted rfl rfl rfl rfl) rfl fun a hS => st_v hS rfl rfl (run_pick_t hS rfl rfl) fun a hS => st_v hS rfl rfl (run_move hS rfl) fun a hS => st_skip hS (hS.unwanted rfl rfl rfl rfl) rfl fun a hS => st_skip hS (hS.unwanted rfl rfl rfl rfl) rfl fun a hS => st_skip hS (hS.unwanted rfl rfl rfl rfl) rfl fun a hS => st_skip hS (hS.unwanted rfl rfl rfl rfl) rfl fun a hS => st_v hS rfl rfl (run_pick_t hS rfl rfl) fun a hS => st_v hS rfl rfl (run_move hS rfl) fun a hS => st_skip hS (hS.unwanted rfl rfl rfl rfl) rfl fun a hS => st_skip hS (hS.unwanted rfl rfl rfl rfl) rfl fun a hS => st_skip hS (hS.unwanted rfl rfl rfl rfl) rfl fun a hS => st_skip hS (hS.unwanted rfl rfl rfl rfl) rfl fun a hS => st_v hS rfl rfl (run_pick_t hS rfl rfl) fun a hS => st_v hS rfl rfl (run_move hS rfl) fun a hS => st_skip hS (hS.unwanted rfl rfl rfl rfl) rfl fun a hS => st_skip hS (hS.unwanted rfl rfl rfl rfl) rfl fun a hS => st_skip hS (hS.unwanted rfl rfl rfl rfl) rfl fun a hS => st_skip hS (hS.unwanted rfl rfl rfl rfl) rfl fun a hS => st_skip hS (hS.unwanted rfl rfl rfl rfl) rfl fun a hS => st_skip hS (hS.unwanted rfl rfl rfl rfl) rfl fun a hS => st_v hS rfl rfl (run_pick_t hS rfl rfl) fun a hS => st_v hS rfl rfl (run_move hS rfl) fun a hS => st_skip hS (hS.unwanted rfl rfl rfl rfl) rfl fun a hS => st_skip hS (hS.unwanted rfl rfl rfl rfl) rfl fun a hS => st_skip hS (hS.unwanted rfl rfl rfl rfl) rfl fun a hS => st_skip hS (hS.unwanted rfl rfl rfl rfl) rfl fun a hS => st_skip hS (hS.unwanted rfl rfl rfl rfl) rfl fun a hS => st_skip hS (hS.unwanted rfl rfl rfl rfl) rfl fun a hS => st_v hS rfl rfl (run_pick_t hS rfl rfl) fun a hS => wl_nil ?_
    have hS := hS.sub (κ' := [(0, _), (1, _), (2, _), (3, _), (53, _)]) (Sub.cons rfl (Sub.cons rfl (Sub.cons rfl (Sub.cons rfl (Sub.cons rfl Sub.nil)))))
    refine st_cond_t hS rfl ?_
    refine wpIn_seq ?_
    refine wpIn_region_lit ?_
    refine st_v hS rfl rfl (run_assign hS rfl) fun a hS => wl_nil ?_
    refine wpIn_ret ?_
    repeat (first | refine q_ret ?_ | refine q_block_ret ?_)
    refine hS.done (res1 (fn := Tryz.f122) (r1 := .tmp 2) rfl (rv_tmp hS rfl)) ?_
    have hn : numOk c = false := by simp [numOk, hc1, hc2, hc3]
    have hE : craftE r c = 30 := by simp [craftE, craftOk, hrok, hn]
    rw [hE]
   ·
    try simp only [ty] at hc3
    refine st_v hS (hS.wanted rfl rfl rfl) rfl (run_fieldAddr fa29_3 hS rfl) fun a hS => st_v hS (hS.wanted rfl rfl rfl) rfl (run_load_one (i := 0) Tryz.isAgg3 hS rfl rfl rfl) fun a hS => st_call (ref03_within) Tryz.call139 hS (hS.wanted rfl rfl rfl) rfl rfl fun v W a hR hB hlt hS => ?_
    subst hR
    refine st_v hS (hS.wanted rfl rfl rfl) rfl (run_not hS rfl) fun a hS => st_v hS rfl rfl (run_pick_f hS rfl rfl) fun a hS => st_v hS rfl rfl (run_move hS rfl) fun a hS => ?_
    refine st_split (d := 26) hS rfl (fun hc4 hS => ?_) (fun hc4 hS => ?_)
    ·
     try simp only [ty] at hc4
     refine st_skip hS (hS.unwanted rfl rfl rfl rfl) rfl fun a hS => st_skip hS (hS.unwanted rfl rfl rfl rfl) rfl fun a hS => st_skip hS (hS.unwanted rfl rfl rfl rfl) rfl fun a hS => st_skip hS (hS.unwanted rfl rfl rfl rfl) rfl fun a hS => st_v hS rfl rfl (run_pick_t hS rfl rfl) fun a hS => st_v hS rfl rfl (run_move hS rfl) fun a hS => st_skip hS (hS.unwanted rfl rfl rfl rfl) rfl fun a hS => st_skip hS (hS.unwanted rfl rfl rfl rfl) rfl fun a hS => st_skip hS (hS.unwanted rfl rfl rfl rfl) rfl fun a hS => st_skip hS (hS.unwanted rfl rfl rfl rfl) rfl fun a hS => st_v hS rfl rfl (run_pick_t hS rfl rfl) fun a hS => st_v hS rfl rfl (run_move hS rfl) fun a hS => st_skip hS (hS.unwanted rfl rfl rfl rfl) rfl fun a hS => st_skip hS (hS.unwanted rfl rfl rfl rfl) rfl fun a hS => st_skip hS (hS.unwanted rfl rfl rfl rfl) rfl fun a hS => st_skip hS (hS.unwanted rfl rfl rfl rfl) rfl fun a hS => st_skip hS (hS.unwanted rfl rfl rfl rfl) rfl fun a hS => st_skip hS (hS.unwanted rfl rfl rfl rfl) rfl fun a hS => st_v hS rfl rfl (run_pick_t hS rfl rfl) fun a hS => st_v hS rfl rfl (run_move hS rfl) fun a hS => st_skip hS (hS.unwanted rfl rfl rfl rfl) rfl fun a hS => st_skip hS (hS.unwanted rfl rfl rfl rfl) rfl fun a hS => st_skip hS (hS.unwanted rfl rfl rfl rfl) rfl fun a hS => st_skip hS (hS.unwanted rfl rfl rfl rfl) rfl fun a hS => st_skip hS (hS.unwanted rfl rfl rfl rfl) rfl fun a hS => st_skip hS (hS.unwanted rfl rfl rfl rfl) rfl fun a hS => st_v hS rfl rfl (run_pick_t hS rfl rfl) fun a hS => wl_nil ?_
     have hS := hS.sub (κ' := [(0, _), (1, _), (2, _), (3, _), (53, _)]) (Sub.cons rfl (Sub.cons rfl (Sub.cons rfl (Sub.cons rfl (Sub.cons rfl Sub.nil)))))
     refine st_cond_t hS rfl ?_
     refine wpIn_seq ?_
     refine wpIn_region_lit ?_
     refine st_v hS rfl rfl (run_assign hS rfl) fun a hS => wl_nil ?_
     refine wpIn_ret ?_
     repeat (first | refine q_ret ?_ | refine q_block_ret ?_)
     refine hS.done (res1 (fn := Tryz.f122) (r1 := .tmp 2) rfl (rv_tmp hS rfl)) ?_
     have hn : numOk c = false := by simp [numOk, hc1, hc2, hc3, hc4]
     have hE : craftE r c = 30 := by simp [craftE, craftOk, hrok, hn]
     rw [hE]
    ·
     try simp only [ty] at hc4
     refine st_v hS (hS.wanted rfl rfl rfl) rfl (run_fieldAddr fa29_4 hS rfl) fun a hS => st_v hS (hS.wanted rfl rfl rfl) rfl (run_load_one (i := 0) Tryz.isAgg3 hS rfl rfl rfl) fun a hS => st_call (ref03_within) Tryz.call139 hS (hS.wanted rfl rfl rfl) rfl rfl fun v W a hR hB hlt hS => ?_
     subst hR
     refine st_v hS (hS.wanted rfl rfl rfl) rfl (run_not hS rfl) fun a hS => st_v hS rfl rfl (run_pick_f hS rfl rfl) fun a hS => st_v hS rfl rfl (run_move hS rfl) fun a hS => ?_
     refine st_split (d := 32) hS rfl (fun hc5 hS => ?_) (fun hc5 hS => ?_)
     ·
      try simp only [ty] at hc5
      refine st_skip hS (hS.unwanted rfl rfl rfl rfl) rfl fun a hS => st_skip hS (hS.unwanted rfl rfl rfl rfl) rfl fun a hS => st_skip hS (hS.unwanted rfl rfl rfl rfl) rfl fun a hS => st_skip hS (hS.unwanted rfl rfl rfl rfl) rfl fun a hS => st_v hS rfl rfl (run_pick_t hS rfl rfl) fun a hS => st_v hS rfl rfl (run_move hS rfl) fun a hS => st_skip hS (hS.unwanted rfl rfl rfl rfl) rfl fun a hS => st_skip hS (hS.unwanted rfl rfl rfl rfl) rfl fun a hS => st_skip hS (hS.unwanted rfl rfl rfl rfl) rfl fun a hS => st_skip hS (hS.unwanted rfl rfl rfl rfl) rfl fun a hS => st_skip hS (hS.unwanted rfl rfl rfl rfl) rfl fun a hS => st_skip hS (hS.unwanted rfl rfl rfl rfl) rfl fun a hS => st_v hS rfl rfl (run_pick_t hS rfl rfl) fun a hS => st_v hS rfl rfl (run_move hS rfl) fun a hS => st_skip hS (hS.unwanted rfl rfl rfl rfl) rfl fun a hS => st_skip hS (hS.unwanted rfl rfl rfl rfl) rfl fun a hS => st_skip hS (hS.unwanted rfl rfl rfl rfl) rfl fun a hS => st_skip hS (hS.unwanted rfl rfl rfl rfl) rfl fun a hS => st_skip hS (hS.unwanted rfl rfl rfl rfl) rfl fun a hS => st_skip hS (hS.unwanted rfl rfl rfl rfl) rfl fun a hS => st_v hS rfl rfl (run_pick_t hS rfl rfl) fun a hS => wl_nil ?_
      have hS := hS.sub (κ' := [(0, _), (1, _), (2, _), (3, _), (53, _)]) (Sub.cons rfl (Sub.cons rfl (Sub.cons rfl (Sub.cons rfl (Sub.cons rfl Sub.nil)))))
      refine st_cond_t hS rfl ?_
      refine wpIn_seq ?_
      refine wpIn_region_lit ?_
      refine st_v hS rfl rfl (run_assign hS rfl) fun a hS => wl_nil ?_
      refine wpIn_ret ?_
      repeat (first | refine q_ret ?_ | refine q_block_ret ?_)
      refine hS.done (res1 (fn := Tryz.f122) (r1 := .tmp 2) rfl (rv_tmp hS rfl)) ?_
      have hn : numOk c = false := by simp [numOk, hc1, hc2, hc3, hc4, hc5]
      have hE : craftE r c = 30 := by simp [craftE, craftOk, hrok, hn]
      rw [hE]
     ·
      try simp only [ty] at hc5
      refine st_v hS (hS.wanted rfl rfl rfl) rfl (run_fieldAddr fa29_5 hS rfl) fun a hS => st_v hS (hS.wanted rfl rfl rfl) rfl (run_load_one (i := 0) Tryz.isAgg3 hS rfl rfl rfl) fun a hS => st_call (ref03_within) Tryz.call139 hS (hS.wanted rfl rfl rfl) rfl rfl fun v W a hR hB hlt hS => ?_
      subst hR
      refine st_v hS (hS.wanted rfl rfl rfl) rfl (run_not hS rfl) fun a hS => st_v hS rfl rfl (run_pick_f hS rfl rfl) fun a hS => st_v hS rfl rfl (run_move hS rfl) fun a hS => ?_
      refine st_split (d := 38) hS rfl (fun hc6 hS => ?_) (fun hc6 hS => ?_)
      ·
       try simp only [ty] at hc6
       refine st_skip hS (hS.unwanted rfl rfl rfl rfl) rfl fun a hS => st_skip hS (hS.unwanted rfl rfl rfl rfl) rfl fun a hS => st_skip hS (hS.unwanted rfl rfl rfl rfl) rfl fun a hS => st_skip hS (hS.unwanted rfl rfl rfl rfl) rfl fun a hS => st_skip hS (hS.unwanted rfl rfl rfl rfl) rfl fun a hS => st_skip hS (hS.unwanted rfl rfl rfl rfl) rfl fun a hS => st_v hS rfl rfl (run_pick_t hS rfl rfl) fun a hS => st_v hS rfl rfl (run_move hS rfl) fun a hS => st_skip hS (hS.unwanted rfl rfl rfl rfl) rfl fun a hS => st_skip hS (hS.unwanted rfl rfl rfl rfl) rfl fun a hS => st_skip hS (hS.unwanted rfl rfl rfl rfl) rfl fun a hS => st_skip hS (hS.unwanted rfl rfl rfl rfl) rfl fun a hS => st_skip hS (hS.unwanted rfl rfl rfl rfl) rfl fun a hS => st_skip hS (hS.unwanted rfl rfl rfl rfl) rfl fun a hS => st_v hS rfl rfl (run_pick_t hS rfl rfl) fun a hS => wl_nil ?_
       have hS := hS.sub (κ' := [(0, _), (1, _), (2, _), (3, _), (53, _)]) (Sub.cons rfl (Sub.cons rfl (Sub.cons rfl (Sub.cons rfl (Sub.cons rfl Sub.nil)))))
       refine st_cond_t hS rfl ?_
       refine wpIn_seq ?_
       refine wpIn_region_lit ?_
       refine st_v hS rfl rfl (run_assign hS rfl) fun a hS => wl_nil ?_
       refine wpIn_ret ?_
       repeat (first | refine q_ret ?_ | refine q_block_ret ?_)
       refine hS.done (res1 (fn := Tryz.f122) (r1 := .tmp 2) rfl (rv_tmp hS rfl)) ?_
       have hn : numOk c = false := by simp [numOk, hc1, hc2, hc3, hc4, hc5, hc6]
       have hE : craftE r c = 30 := by simp [craftE, craftOk, hrok, hn]
       rw [hE]
      ·
       try simp only [ty] at hc6
       refine st_v hS (hS.wanted rfl rfl rfl) rfl (run_fieldAddr fa29_6 hS rfl) fun a hS => st_v hS (hS.wanted rfl rfl rfl) rfl (run_load_one (i := 0) Tryz.isAgg3 hS rfl rfl rfl) fun a hS => st_v hS (hS.wanted rfl rfl rfl) rfl (run_fieldAddr fa29_4 hS rfl) fun a hS => st_v hS (hS.wanted rfl rfl rfl) rfl (run_load_one (i := 0) Tryz.isAgg3 hS rfl rfl rfl) fun a hS => st_call (ref03_within) Tryz.call139 hS (hS.wanted rfl rfl rfl) rfl rfl fun v W a hR hB hlt hS => ?_
       subst hR
       refine st_v hS (hS.wanted rfl rfl rfl) rfl (run_not hS rfl) fun a hS => st_v hS rfl rfl (run_pick_f hS rfl rfl) fun a hS => st_v hS rfl rfl (run_move hS rfl) fun a hS => ?_
       refine st_split (d := 46) hS rfl (fun hc7 hS => ?_) (fun hc7 hS => ?_)
       ·
        try simp only [ty] at hc7
        refine st_skip hS (hS.unwanted rfl rfl rfl rfl) rfl fun a hS => st_skip hS (hS.unwanted rfl rfl rfl rfl) rfl fun a hS => st_skip hS (hS.unwanted rfl rfl rfl rfl) rfl fun a hS => st_skip hS (hS.unwanted rfl rfl rfl rfl) rfl fun a hS => st_skip hS (hS.unwanted rfl rfl rfl rfl) rfl fun a hS => st_skip hS (hS.unwanted rfl rfl rfl rfl) rfl fun a hS => st_v hS rfl rfl (run_pick_t hS rfl rfl) fun a hS => wl_nil ?_
        have hS := hS.sub (κ' := [(0, _), (1, _), (2, _), (3, _), (53, _)]) (Sub.cons rfl (Sub.cons rfl (Sub.cons rfl (Sub.cons rfl (Sub.cons rfl Sub.nil)))))
        refine st_cond_t hS rfl ?_
        refine wpIn_seq ?_
        refine wpIn_region_lit ?_
        refine st_v hS rfl rfl (run_assign hS rfl) fun a hS => wl_nil ?_
        refine wpIn_ret ?_
        repeat (first | refine q_ret ?_ | refine q_block_ret ?_)
        refine hS.done (res1 (fn := Tryz.f122) (r1 := .tmp 2) rfl (rv_tmp hS rfl)) ?_
        have hn : numOk c = false := by simp [numOk, hc1, hc2, hc3, hc4, hc5, hc6, hc7]
        have hE : craftE r c = 30 := by simp [craftE, craftOk, hrok, hn]
        rw [hE]
       ·
        try simp only [ty] at hc7
        refine st_v hS (hS.wanted rfl rfl rfl) rfl (run_fieldAddr fa29_7 hS rfl) fun a hS => st_v hS (hS.wanted rfl rfl rfl) rfl (run_load_one (i := 0) Tryz.isAgg3 hS rfl rfl rfl) fun a hS => st_v hS (hS.wanted rfl rfl rfl) rfl (run_fieldAddr fa29_5 hS rfl) fun a hS => st_v hS (hS.wanted rfl rfl rfl) rfl (run_load_one (i := 0) Tryz.isAgg3 hS rfl rfl rfl) fun a hS => st_call (ref03_within) Tryz.call139 hS (hS.wanted rfl rfl rfl) rfl rfl fun v W a hR hB hlt hS => ?_
        subst hR
        refine st_v hS (hS.wanted rfl rfl rfl) rfl (run_not hS rfl) fun a hS => st_v hS rfl rfl (run_pick_f hS rfl rfl) fun a hS => wl_nil ?_
        have hS := hS.sub (κ' := [(0, _), (1, _), (2, _), (3, _), (53, _)]) (Sub.cons rfl (Sub.cons rfl (Sub.cons rfl (Sub.cons rfl (Sub.cons rfl Sub.nil)))))
        refine st_cond hS rfl (fun hc8 => ?_) (fun hc8 => ?_)
        ·
         try simp only [ty] at hc8
         refine wpIn_seq ?_
         refine wpIn_region_lit ?_
         refine st_v hS rfl rfl (run_assign hS rfl) fun a hS => wl_nil ?_
         refine wpIn_ret ?_
         repeat (first | refine q_ret ?_ | refine q_block_ret ?_)
         refine hS.done (res1 (fn := Tryz.f122) (r1 := .tmp 2) rfl (rv_tmp hS rfl)) ?_
         have hn : numOk c = false := by simp [numOk, hc1, hc2, hc3, hc4, hc5, hc6, hc7, hc8]
         have hE : craftE r c = 30 := by simp [craftE, craftOk, hrok, hn]
         rw [hE]
        ·
         try simp only [ty] at hc8
         have hn : numOk c = true := by simp [numOk, hc1, hc2, hc3, hc4, hc5, hc6, hc7, hc8]
         have hp := num_p hn
         have hpr := prod_in (a := c.top) (b := c.unit) (A := 6) (B := 1000) (by have := hp.top; omega) hp.top.2 (by have := hp.unit; omega) hp.unit.2
         refine wpIn_skip ?_
         refine wpIn_seq ?_
         refine wpIn_seq ?_
         refine st_draw (by kernel_rfl) (by kernel_rfl) hS ?_
         refine qt_v hS rfl rfl (fun W hB hS => run_fieldAddr fa29_0 hS rfl) fun a hS => qt_v hS rfl rfl (fun W hB hS => run_fieldAddr fa27_2 hS rfl) fun a hS => qt_v hS rfl rfl (fun W hB hS => run_fieldAddr fa25_0 hS rfl) fun a hS => qt_v hS rfl rfl (fun W hB hS => run_load_one (i := 0) Tryz.isAgg22 hS rfl rfl rfl) fun a hS => qt_v hS rfl rfl (fun W hB hS => run_fieldAddr fa29_4 hS rfl) fun a hS => qt_v hS rfl rfl (fun W hB hS => run_load_one (i := 0) Tryz.isAgg3 hS rfl rfl rfl) fun a hS => qt_v hS rfl rfl (fun W hB hS => run_fieldAddr fa29_2 hS rfl) fun a hS => qt_v hS rfl rfl (fun W hB hS => run_load_one (i := 0) Tryz.isAgg3 hS rfl rfl rfl) fun a hS => qt_v hS rfl rfl (fun W hB hS => run_mul (t := (c.top * c.unit)) hS rfl rfl (by rfl) (by omega)) fun a hS => qt_v hS rfl rfl (fun W hB hS => run_build (pv := [(1, .int .i64 _)]) (fun W => bd31_1 _ W) hS rfl) fun a hS => qt_call hS rfl rfl Tryz.call161 rfl (fun W hB hS => ref01_Between Vr.level.x r.level.X (⟨0, (c.top * c.unit)⟩ : Span) ((fun W hC => ((fun W hC => (Hr W hC).level) W hC).1) _ hS.below) (by omega)) fun a hS => qt_v hS rfl rfl (fun W hB hS => run_not hS rfl) fun a hS => qt_v hS rfl rfl (fun W hB hS => run_move hS rfl) fun a hS => ?_
         refine st_split (d := 66) hS rfl (fun hc9 hS => ?_) (fun hc9 hS => ?_)
         ·
          try simp only [ty] at hc9
          refine qt_skip hS (hS.unwanted rfl rfl rfl rfl) rfl fun a hS => qt_skip hS (hS.unwanted rfl rfl rfl rfl) rfl fun a hS => qt_skip hS (hS.unwanted rfl rfl rfl rfl) rfl fun a hS => qt_skip hS (hS.unwanted rfl rfl rfl rfl) rfl fun a hS => qt_skip hS (hS.unwanted rfl rfl rfl rfl) rfl fun a hS => qt_skip hS (hS.unwanted rfl rfl rfl rfl) rfl fun a hS => qt_skip hS (hS.unwanted rfl rfl rfl rfl) rfl fun a hS => qt_v hS rfl rfl (fun W hB hS => run_pick_t hS rfl rfl) fun a hS => qt_nil hS fun W hS => ?_
          refine st_cond_t hS rfl ?_
          refine wpIn_seq ?_
          refine wpIn_region_lit ?_
          refine st_v hS rfl rfl (run_assign hS rfl) fun a hS => wl_nil ?_
          refine wpIn_ret ?_
          repeat (first | refine q_ret ?_ | refine q_block_ret ?_)
          refine hS.done (res1 (fn := Tryz.f122) (r1 := .tmp 2) rfl (rv_tmp hS rfl)) ?_
          have hE : craftE r c = 30 := by simp [craftE, craftOk, hrok, hn, hc9]
          rw [hE]
         ·
          try simp only [ty] at hc9
          refine qt_v hS (hS.wanted rfl rfl rfl) rfl (fun W hB hS => run_fieldAddr fa29_0 hS rfl) fun a hS => qt_v hS (hS.wanted rfl rfl rfl) rfl (fun W hB hS => run_fieldAddr fa27_5 hS rfl) fun a hS => qt_v hS (hS.wanted rfl rfl rfl) rfl (fun W hB hS => run_fieldAddr fa25_0 hS rfl) fun a hS => qt_v hS (hS.wanted rfl rfl rfl) rfl (fun W hB hS => run_load_one (i := 0) Tryz.isAgg22 hS rfl rfl rfl) fun a hS => qt_call hS (hS.wanted rfl rfl rfl) rfl Tryz.call137 rfl (fun W hB hS => ref03_one) fun a hS => qt_call hS (hS.wanted rfl rfl rfl) rfl Tryz.call161 rfl (fun W hB hS => ref01_Between Vr.low.x r.low.X (one 0) ((fun W hC => ((fun W hC => (Hr W hC).low) W hC).1) _ hS.below) (by omega)) fun a hS => qt_v hS (hS.wanted rfl rfl rfl) rfl (fun W hB hS => run_not hS rfl) fun a hS => qt_v hS rfl rfl (fun W hB hS => run_pick_f hS rfl rfl) fun a hS => qt_nil hS fun W hS => ?_
          refine st_cond hS rfl (fun hc10 => ?_) (fun hc10 => ?_)
          ·
           try simp only [ty] at hc10
           refine wpIn_seq ?_
           refine wpIn_region_lit ?_
           refine st_v hS rfl rfl (run_assign hS rfl) fun a hS => wl_nil ?_
           refine wpIn_ret ?_
           repeat (first | refine q_ret ?_ | refine q_block_ret ?_)
           refine hS.done (res1 (fn := Tryz.f122) (r1 := .tmp 2) rfl (rv_tmp hS rfl)) ?_
           have h10 : lies r.low.X 0 0 = false := hc10
           have hE : craftE r c = 30 := by simp [craftE, craftOk, hrok, hn, hc9, h10]
           rw [hE]
          ·
           try simp only [ty] at hc10
           refine wpIn_skip ?_
           refine wpIn_seq ?_
           refine wpIn_region_lit ?_
           refine st_v hS rfl rfl (run_assign hS rfl) fun a hS => wl_nil ?_
           refine wpIn_ret ?_
           repeat (first | refine q_ret ?_ | refine q_block_ret ?_)
           refine hS.done (res1 (fn := Tryz.f122) (r1 := .tmp 2) rfl (rv_tmp hS rfl)) ?_
           have h10 : lies r.low.X 0 0 = true := hc10
           have hE : craftE r c = 0 := by simp [craftE, craftOk, hrok, hn, hc9, h10]
           rw [hE]
set_option maxHeartbeats 2000000 in
set_option maxRecDepth 100000 in
theorem engine_cf1  (h : Hind) {w : World}   : Ret Tryz.prog 194 [.agg (hindC h).toArray] w (fun v _ => v = .bool (!(hindOk h))) := by
 refine ret_start (n := 13) Tryz.func194 rfl rfl rfl (fun a hS => ?_)
 refine wpIn_seq ?_
 refine wpIn_region_lit ?_
 refine st_box_agg hS rfl rfl rfl fun W a b0 hS => st_v hS rfl rfl (run_assign hS rfl) fun a hS => wl_nil ?_
 refine wpIn_seq ?_
 refine wpIn_region_lit ?_
 refine st_v hS rfl rfl (run_fieldAddr fa194_0 hS rfl) fun a hS => st_v hS rfl rfl (run_load_one (i := 0) Tryz.isAgg3 hS rfl rfl rfl) fun a hS => st_call (engine_within) Tryz.call152 hS rfl rfl rfl fun v W a hR hB hlt hS => ?_
 subst hR
 refine st_v hS rfl rfl (run_not hS rfl) fun a hS => st_v hS rfl rfl (run_move hS rfl) fun a hS => ?_
 refine st_split (d := 7) hS rfl (fun hc1 hS => ?_) (fun hc1 hS => ?_)
 ·
  try simp only [ty] at hc1
  refine st_skip hS (hS.unwanted rfl rfl rfl rfl) rfl fun a hS => st_skip hS (hS.unwanted rfl rfl rfl rfl) rfl fun a hS => st_skip hS (hS.unwanted rfl rfl rfl rfl) rfl fun a hS => st_skip hS (hS.unwanted rfl rfl rfl rfl) rfl fun a hS => st_v hS rfl rfl (run_pick_t hS rfl rfl) fun a hS => st_v hS rfl rfl (run_assign hS rfl) fun a hS => wl_nil ?_
  refine wpIn_ret ?_
  repeat (first | refine q_ret ?_ | refine q_block_ret ?_)
  refine hS.done (res1 (fn := Tryz.f194) (r1 := .tmp 2) rfl (rv_tmp hS rfl)) ?_
  refine vb ?_; simp [hindOk, hc1]
 ·
  try simp only [ty] at hc1
  refine st_v hS (hS.wanted rfl rfl rfl) rfl (run_fieldAddr fa194_1 hS rfl) fun a hS => st_v hS (hS.wanted rfl rfl rfl) rfl (run_load_one (i := 0) Tryz.isAgg3 hS rfl rfl rfl) fun a hS => st_call (engine_within) Tryz.call152 hS (hS.wanted rfl rfl rfl) rfl rfl fun v W a hR hB hlt hS => ?_
  subst hR
  refine st_v hS (hS.wanted rfl rfl rfl) rfl (run_not hS rfl) fun a hS => st_v hS rfl rfl (run_pick_f hS rfl rfl) fun a hS => st_v hS rfl rfl (run_assign hS rfl) fun a hS => wl_nil ?_
  refine wpIn_ret ?_
  repeat (first | refine q_ret ?_ | refine q_block_ret ?_)
  refine hS.done (res1 (fn := Tryz.f194) (r1 := .tmp 2) rfl (rv_tmp hS rfl)) ?_
  refine vb ?_; simp [hindOk, hc1]
set_option maxHeartbeats 2000000 in
set_option maxRecDepth 100000 in
theorem idx_hind (sxs : SV) (xs : List Hind) (f : FuncId) (cap : List Value) (p : Hind → Bool) {F : Nat → Prop} {w : World} (hxs : Sl kHind F w sxs xs) (hf : Enters Tryz.prog f) (hp : ∀ W, Below w.heap.size w W → ∀ x ∈ xs, Ret Tryz.prog f (.agg (hindC x).toArray :: cap) W (fun v _ => v = .bool (p x))) : Ret Tryz.prog 236 [.slice sxs.a xs.length sxs.c, .func (.func f) #[] cap.toArray] w (fun v _ => v = .int .i64 (idxOf p xs)) := by
 refine ret_start (n := 19) Tryz.func236 rfl rfl rfl (fun a hS => ?_)
 have Hxs : ∀ W, Below w.heap.size w W → Sl kHind F W sxs xs := fun W hb => hxs.at_ hb
 have hmxs := hxs.len
 refine wpIn_seq ?_
 refine wpIn_region_lit ?_
 refine st_v hS rfl rfl (run_assign hS rfl) fun a hS => wl_nil ?_
 refine wpIn_seq ?_
 refine wpIn_seq ?_
 refine wpIn_region_lit ?_
 refine st_v hS rfl rfl (run_move hS rfl) fun a hS => st_v hS rfl rfl (run_len_slice Tryz.underlying34 hS rfl) fun a hS => st_v hS rfl rfl (run_move hS rfl) fun a hS => wl_nil ?_
 refine wpIn_block ?_
 refine st_loop2 (α := Nat) (fun x => [(8, .int .i64 (((x : Nat) : Int)))]) [(0, _), (1, _), (7, _)] (fun l _ => l) (fun x => x ≤ xs.length ∧ ∀ j, j < x → p (xs.getD j hindD) = false) (fun x => xs.length - x) (0) hS (Sub.cons rfl (Sub.cons rfl (Sub.cons rfl (Sub.cons rfl Sub.nil)))) rfl (⟨Nat.zero_le _, fun j hj => absurd hj (Nat.not_lt_zero j)⟩) (fun x W a hφ hS => ?_)
 dsimp only [setB, List.cons_append, List.nil_append, List.take] at hS
 obtain ⟨hx, hg⟩ := hφ
 refine wpIn_seq ?_
 refine wpIn_region_lit ?_
 refine st_v hS rfl rfl (run_bin hS rfl rfl rfl) fun a hS => wl_nil ?_
 refine wpIn_seq ?_
 refine st_cond hS rfl (fun hc1 => ?_) (fun hc1 => ?_)
 ·
  try simp only [ty] at hc1
  refine wpIn_skip ?_
  refine wpIn_seq ?_
  refine wpIn_block ?_
  refine wpIn_seq ?_
  refine wpIn_region_lit ?_
  refine st_v hS rfl rfl (run_move hS rfl) fun a hS => st_v hS rfl rfl (run_assign hS rfl) fun a hS => wl_nil ?_
  refine wpIn_seq ?_
  refine wpIn_region_lit ?_
  refine st_v hS rfl rfl (run_move hS rfl) fun a hS => st_v hS rfl rfl (run_move hS rfl) fun a hS => st_v hS rfl rfl (run_move hS rfl) fun a hS => ?_
  obtain ⟨ad0, hA0, hL0⟩ := sl_of Hxs (Below.refl _ _) hindD (i := ((x : Nat) : Int)) (j := x) (by omega) (by omega)
  refine st_v hS rfl rfl (run_indexAddr Tryz.underlying34 Tryz.sizeOf194 hS rfl rfl hA0 (by omega) (by omega)) fun a hS => st_v hS rfl rfl (run_load_ext Tryz.isAgg194 Tryz.sizeOf194 hS rfl rfl (hL0 _ hS.below)) fun a hS => st_callv hS rfl rfl (hf) (hp _ hS.below (hindAt xs x) (getD_mem (by omega))) rfl rfl fun v W a hR hB hlt hS => ?_
  subst hR
  refine wl_nil ?_
  refine st_cond hS rfl (fun hc2 => ?_) (fun hc2 => ?_)
  ·
   try simp only [ty] at hc2
   refine wpIn_seq ?_
   refine wpIn_region_lit ?_
   refine st_v hS rfl rfl (run_move hS rfl) fun a hS => st_v hS rfl rfl (run_assign hS rfl) fun a hS => wl_nil ?_
   refine wpIn_ret ?_
   repeat (first | refine q_ret ?_ | refine q_block_ret ?_)
   refine hS.done (res1 (fn := Tryz.f236) (r1 := .tmp 4) rfl (rv_tmp hS rfl)) ?_
   rw [idxOf_some (d := hindD) (i := x) (by omega) hg (by assumption)]
  ·
   try simp only [ty] at hc2
   refine wpIn_skip ?_
   refine wpIn_region_lit ?_
   refine st_v hS rfl rfl (run_add (t := ((x + 1 : Nat) : Int)) hS rfl rfl (by omega) (by omega) (by omega)) fun a hS => st_v hS rfl rfl (run_move hS rfl) fun a hS => wl_nil ?_
   refine ⟨x + 1, ⟨⟨by omega, fun j hj => ?_⟩, by omega⟩, (hS.sub (Sub.cons rfl (Sub.cons rfl (Sub.cons rfl (Sub.cons rfl Sub.nil)))))⟩
   by_cases e : j = x
   · subst e; assumption
   · exact hg j (by omega)
 ·
  try simp only [ty] at hc1
  refine wpIn_exit ?_
  refine wpIn_seq ?_
  refine wpIn_region_lit ?_
  refine st_v hS rfl rfl (run_assign hS rfl) fun a hS => wl_nil ?_
  refine wpIn_ret ?_
  repeat (first | refine q_ret ?_ | refine q_block_ret ?_)
  refine hS.done (res1 (fn := Tryz.f236) (r1 := .tmp 4) rfl (rv_tmp hS rfl)) ?_
  rw [idxOf_none (d := hindD) (fun j hj => hg j (by omega))]
set_option maxHeartbeats 2000000 in
set_option maxRecDepth 100000 in
theorem has_hind (sxs : SV) (xs : List Hind) (f : FuncId) (cap : List Value) (p : Hind → Bool) {F : Nat → Prop} {w : World} (hxs : Sl kHind F w sxs xs) (hf : Enters Tryz.prog f) (hp : ∀ W, Below w.heap.size w W → ∀ x ∈ xs, Ret Tryz.prog f (.agg (hindC x).toArray :: cap) W (fun v _ => v = .bool (p x))) : Ret Tryz.prog 193 [.slice sxs.a xs.length sxs.c, .func (.func f) #[] cap.toArray] w (fun v _ => v = .bool (xs.any p)) := by
 refine ret_start (n := 9) Tryz.func193 rfl rfl rfl (fun a hS => ?_)
 have Hxs : ∀ W, Below w.heap.size w W → Sl kHind F W sxs xs := fun W hb => hxs.at_ hb
 have hmxs := hxs.len
 refine wpIn_seq ?_
 refine wpIn_region_lit ?_
 refine st_v hS rfl rfl (run_assign hS rfl) fun a hS => wl_nil ?_
 refine wpIn_seq ?_
 refine wpIn_region_lit ?_
 refine st_v hS rfl rfl (run_move hS rfl) fun a hS => st_v hS rfl rfl (run_move hS rfl) fun a hS => st_call (idx_hind sxs xs f cap p (Hxs _ hS.below) hf (fun W' hb => hp W' (hS.below.trans (hb.mono hS.below.size)))) Tryz.call236 hS rfl rfl rfl fun v W a hR hB hlt hS => ?_
 subst hR
 refine st_v hS rfl rfl (run_bin hS rfl rfl rfl) fun a hS => st_v hS rfl rfl (run_assign hS rfl) fun a hS => wl_nil ?_
 refine wpIn_ret ?_
 repeat (first | refine q_ret ?_ | refine q_block_ret ?_)
 refine hS.done (res1 (fn := Tryz.f193) (r1 := .tmp 4) rfl (rv_tmp hS rfl)) ?_
 rw [idxOf_ge]
set_option maxHeartbeats 2000000 in
set_option maxRecDepth 100000 in
theorem engine_checkField  (sf : SV) (f : Fld) {w : World} {Ff : Nat → Prop} (hf : Sl kHind Ff w sf f.hinds)  : Ret Tryz.prog 121 [.agg (fldC sf f).toArray] w (fun v _ => v = .int .i64 (fldE f)) := by
 refine ret_start (n := 30) Tryz.func121 rfl rfl rfl (fun a hS => ?_)
 have Hf : ∀ W, Below w.heap.size w W → Sl kHind Ff W sf f.hinds := fun W hb => hf.at_ hb
 have hmf := hf.len
 refine wpIn_seq ?_
 refine wpIn_region_lit ?_
 refine st_box_agg hS rfl rfl rfl fun W a b0 hS => st_v hS rfl rfl (run_assign hS rfl) fun a hS => wl_nil ?_
 refine wpIn_seq ?_
 refine wpIn_seq ?_
 refine wpIn_region_lit ?_
 refine st_v hS rfl rfl (run_fieldAddr fa36_0 hS rfl) fun a hS => st_v hS rfl rfl (run_load_one (i := 0) Tryz.isAgg3 hS rfl rfl rfl) fun a hS => st_call (engine_within) Tryz.call152 hS rfl rfl rfl fun v W a hR hB hlt hS => ?_
 subst hR
 refine st_v hS rfl rfl (run_not hS rfl) fun a hS => st_v hS rfl rfl (run_move hS rfl) fun a hS => ?_
 refine st_split (d := 7) hS rfl (fun hc1 hS => ?_) (fun hc1 hS => ?_)
 ·
  try simp only [ty] at hc1
  refine st_skip hS (hS.unwanted rfl rfl rfl rfl) rfl fun a hS => st_skip hS (hS.unwanted rfl rfl rfl rfl) rfl fun a hS => st_skip hS (hS.unwanted rfl rfl rfl rfl) rfl fun a hS => st_skip hS (hS.unwanted rfl rfl rfl rfl) rfl fun a hS => st_v hS rfl rfl (run_pick_t hS rfl rfl) fun a hS => st_v hS rfl rfl (run_move hS rfl) fun a hS => st_skip hS (hS.unwanted rfl rfl rfl rfl) rfl fun a hS => st_skip hS (hS.unwanted rfl rfl rfl rfl) rfl fun a hS => st_skip hS (hS.unwanted rfl rfl rfl rfl) rfl fun a hS => st_skip hS (hS.unwanted rfl rfl rfl rfl) rfl fun a hS => st_v hS rfl rfl (run_pick_t hS rfl rfl) fun a hS => st_v hS rfl rfl (run_move hS rfl) fun a hS => st_skip hS (hS.unwanted rfl rfl rfl rfl) rfl fun a hS => st_skip hS (hS.unwanted rfl rfl rfl rfl) rfl fun a hS => st_skip hS (hS.unwanted rfl rfl rfl rfl) rfl fun a hS => st_skip hS (hS.unwanted rfl rfl rfl rfl) rfl fun a hS => st_v hS rfl rfl (run_pick_t hS rfl rfl) fun a hS => st_v hS rfl rfl (run_move hS rfl) fun a hS => st_skip hS (hS.unwanted rfl rfl rfl rfl) rfl fun a hS => st_skip hS (hS.unwanted rfl rfl rfl rfl) rfl fun a hS => st_skip hS (hS.unwanted rfl rfl rfl rfl) rfl fun a hS => st_v hS rfl rfl (run_pick_t hS rfl rfl) fun a hS => wl_nil ?_
  have hS := hS.sub (κ' := [(0, _), (1, _), (2, _), (29, _)]) (Sub.cons rfl (Sub.cons rfl (Sub.cons rfl (Sub.cons rfl Sub.nil))))
  refine st_cond_t hS rfl ?_
  refine wpIn_seq ?_
  refine wpIn_region_lit ?_
  refine st_v hS rfl rfl (run_assign hS rfl) fun a hS => wl_nil ?_
  refine wpIn_ret ?_
  repeat (first | refine q_ret ?_ | refine q_block_ret ?_)
  refine hS.done (res1 (fn := Tryz.f121) (r1 := .tmp 2) rfl (rv_tmp hS rfl)) ?_
  have hE : fldE f = 31 := by simp [fldE, fldOk, hc1]
  rw [hE]
 ·
  try simp only [ty] at hc1
  refine st_v hS (hS.wanted rfl rfl rfl) rfl (run_fieldAddr fa36_1 hS rfl) fun a hS => st_v hS (hS.wanted rfl rfl rfl) rfl (run_load_one (i := 0) Tryz.isAgg3 hS rfl rfl rfl) fun a hS => st_call (engine_within) Tryz.call152 hS (hS.wanted rfl rfl rfl) rfl rfl fun v W a hR hB hlt hS => ?_
  subst hR
  refine st_v hS (hS.wanted rfl rfl rfl) rfl (run_not hS rfl) fun a hS => st_v hS rfl rfl (run_pick_f hS rfl rfl) fun a hS => st_v hS rfl rfl (run_move hS rfl) fun a hS => ?_
  refine st_split (d := 13) hS rfl (fun hc2 hS => ?_) (fun hc2 hS => ?_)
  ·
   try simp only [ty] at hc2
   refine st_skip hS (hS.unwanted rfl rfl rfl rfl) rfl fun a hS => st_skip hS (hS.unwanted rfl rfl rfl rfl) rfl fun a hS => st_skip hS (hS.unwanted rfl rfl rfl rfl) rfl fun a hS => st_skip hS (hS.unwanted rfl rfl rfl rfl) rfl fun a hS => st_v hS rfl rfl (run_pick_t hS rfl rfl) fun a hS => st_v hS rfl rfl (run_move hS rfl) fun a hS => st_skip hS (hS.unwanted rfl rfl rfl rfl) rfl fun a hS => st_skip hS (hS.unwanted rfl rfl rfl rfl) rfl fun a hS => st_skip hS (hS.unwanted rfl rfl rfl rfl) rfl fun a hS => st_skip hS (hS.unwanted rfl rfl rfl rfl) rfl fun a hS => st_v hS rfl rfl (run_pick_t hS rfl rfl) fun a hS => st_v hS rfl rfl (run_move hS rfl) fun a hS => st_skip hS (hS.unwanted rfl rfl rfl rfl) rfl fun a hS => st_skip hS (hS.unwanted rfl rfl rfl rfl) rfl fun a hS => st_skip hS (hS.unwanted rfl rfl rfl rfl) rfl fun a hS => st_v hS rfl rfl (run_pick_t hS rfl rfl) fun a hS => wl_nil ?_
   have hS := hS.sub (κ' := [(0, _), (1, _), (2, _), (29, _)]) (Sub.cons rfl (Sub.cons rfl (Sub.cons rfl (Sub.cons rfl Sub.nil))))
   refine st_cond_t hS rfl ?_
   refine wpIn_seq ?_
   refine wpIn_region_lit ?_
   refine st_v hS rfl rfl (run_assign hS rfl) fun a hS => wl_nil ?_
   refine wpIn_ret ?_
   repeat (first | refine q_ret ?_ | refine q_block_ret ?_)
   refine hS.done (res1 (fn := Tryz.f121) (r1 := .tmp 2) rfl (rv_tmp hS rfl)) ?_
   have hE : fldE f = 31 := by simp [fldE, fldOk, hc1, hc2]
   rw [hE]
  ·
   try simp only [ty] at hc2
   refine st_v hS (hS.wanted rfl rfl rfl) rfl (run_fieldAddr fa36_2 hS rfl) fun a hS => st_v hS (hS.wanted rfl rfl rfl) rfl (run_load_one (i := 0) Tryz.isAgg3 hS rfl rfl rfl) fun a hS => st_call (engine_within) Tryz.call152 hS (hS.wanted rfl rfl rfl) rfl rfl fun v W a hR hB hlt hS => ?_
   subst hR
   refine st_v hS (hS.wanted rfl rfl rfl) rfl (run_not hS rfl) fun a hS => st_v hS rfl rfl (run_pick_f hS rfl rfl) fun a hS => st_v hS rfl rfl (run_move hS rfl) fun a hS => ?_
   refine st_split (d := 19) hS rfl (fun hc3 hS => ?_) (fun hc3 hS => ?_)
   ·
    try simp only [ty] at hc3
    refine st_skip hS (hS.unwanted rfl rfl rfl rfl) rfl fun a hS => st_skip hS (hS.unwanted rfl rfl rfl rfl) rfl fun a hS => st_skip hS (hS.unwanted rfl rfl rfl rfl) rfl fun a hS => st_skip hS (hS.unwanted rfl rfl rfl rfl) rfl fun a hS => st_v hS rfl rfl (run_pick_t hS rfl rfl) fun a hS => st_v hS rfl rfl (run_move hS rfl) fun a hS => st_skip hS (hS.unwanted rfl rfl rfl rfl) rfl fun a hS => st_skip hS (hS.unwanted rfl rfl rfl rfl) rfl fun a hS => st_skip hS (hS.unwanted rfl rfl rfl rfl) rfl fun a hS => st_v hS rfl rfl (run_pick_t hS rfl rfl) fun a hS => wl_nil ?_
    have hS := hS.sub (κ' := [(0, _), (1, _), (2, _), (29, _)]) (Sub.cons rfl (Sub.cons rfl (Sub.cons rfl (Sub.cons rfl Sub.nil))))
    refine st_cond_t hS rfl ?_
    refine wpIn_seq ?_
    refine wpIn_region_lit ?_
    refine st_v hS rfl rfl (run_assign hS rfl) fun a hS => wl_nil ?_
    refine wpIn_ret ?_
    repeat (first | refine q_ret ?_ | refine q_block_ret ?_)
    refine hS.done (res1 (fn := Tryz.f121) (r1 := .tmp 2) rfl (rv_tmp hS rfl)) ?_
    have hE : fldE f = 31 := by simp [fldE, fldOk, hc1, hc2, hc3]
    rw [hE]
   ·
    try simp only [ty] at hc3
    refine st_v hS (hS.wanted rfl rfl rfl) rfl (run_fieldAddr fa36_3 hS rfl) fun a hS => st_v hS (hS.wanted rfl rfl rfl) rfl (run_load_one (i := 0) Tryz.isAgg34 hS rfl rfl rfl) fun a hS => st_v hS (hS.wanted rfl rfl rfl) rfl (run_len_slice Tryz.underlying34 hS rfl) fun a hS => st_v hS (hS.wanted rfl rfl rfl) rfl (run_bin hS rfl rfl rfl) fun a hS => st_v hS rfl rfl (run_pick_f hS rfl rfl) fun a hS => st_v hS rfl rfl (run_move hS rfl) fun a hS => ?_
    refine st_split (d := 25) hS rfl (fun hc4 hS => ?_) (fun hc4 hS => ?_)
    ·
     try simp only [ty] at hc4
     refine st_skip hS (hS.unwanted rfl rfl rfl rfl) rfl fun a hS => st_skip hS (hS.unwanted rfl rfl rfl rfl) rfl fun a hS => st_skip hS (hS.unwanted rfl rfl rfl rfl) rfl fun a hS => st_v hS rfl rfl (run_pick_t hS rfl rfl) fun a hS => wl_nil ?_
     have hS := hS.sub (κ' := [(0, _), (1, _), (2, _), (29, _)]) (Sub.cons rfl (Sub.cons rfl (Sub.cons rfl (Sub.cons rfl Sub.nil))))
     refine st_cond_t hS rfl ?_
     refine wpIn_seq ?_
     refine wpIn_region_lit ?_
     refine st_v hS rfl rfl (run_assign hS rfl) fun a hS => wl_nil ?_
     refine wpIn_ret ?_
     repeat (first | refine q_ret ?_ | refine q_block_ret ?_)
     refine hS.done (res1 (fn := Tryz.f121) (r1 := .tmp 2) rfl (rv_tmp hS rfl)) ?_
     have h6 : ¬ f.hinds.length ≤ 6 := by omega
     have hE : fldE f = 31 := by simp [fldE, fldOk, h6]
     rw [hE]
    ·
     try simp only [ty] at hc4
     have h6 : f.hinds.length ≤ 6 := by omega
     refine st_v hS (hS.wanted rfl rfl rfl) rfl (run_fieldAddr fa36_3 hS rfl) fun a hS => st_v hS (hS.wanted rfl rfl rfl) rfl (run_load_one (i := 0) Tryz.isAgg34 hS rfl rfl rfl) fun a hS => st_call (has_hind sf f.hinds 194 [] (fun h => !(hindOk h)) (Hf _ hS.below) Tryz.call194 (fun W' hb x hx => engine_cf1 x)) Tryz.call193 hS (hS.wanted rfl rfl rfl) rfl rfl fun v W a hR hB hlt hS => ?_
     subst hR
     refine st_v hS rfl rfl (run_pick_f hS rfl rfl) fun a hS => wl_nil ?_
     have hS := hS.sub (κ' := [(0, _), (1, _), (2, _), (29, _)]) (Sub.cons rfl (Sub.cons rfl (Sub.cons rfl (Sub.cons rfl Sub.nil))))
     refine st_cond hS rfl (fun hc5 => ?_) (fun hc5 => ?_)
     ·
      try simp only [ty] at hc5
      refine wpIn_seq ?_
      refine wpIn_region_lit ?_
      refine st_v hS rfl rfl (run_assign hS rfl) fun a hS => wl_nil ?_
      refine wpIn_ret ?_
      repeat (first | refine q_ret ?_ | refine q_block_ret ?_)
      refine hS.done (res1 (fn := Tryz.f121) (r1 := .tmp 2) rfl (rv_tmp hS rfl)) ?_
      have ha : f.hinds.all hindOk = false := by rw [List.all_eq_not_any_not]; simp [hc5]
      have hE : fldE f = 31 := by simp only [fldE, fldOk, ha, Bool.and_false]; rfl
      rw [hE]
     ·
      try simp only [ty] at hc5
      refine wpIn_skip ?_
      refine wpIn_seq ?_
      refine wpIn_region_lit ?_
      refine st_v hS rfl rfl (run_assign hS rfl) fun a hS => wl_nil ?_
      refine wpIn_ret ?_
      repeat (first | refine q_ret ?_ | refine q_block_ret ?_)
      refine hS.done (res1 (fn := Tryz.f121) (r1 := .tmp 2) rfl (rv_tmp hS rfl)) ?_
      have ha : f.hinds.all hindOk = true := by rw [List.all_eq_not_any_not]; simp [hc5]
      have hE : fldE f = 0 := by simp only [fldE, fldOk, ha, h6, hc1, hc2, hc3, decide_true, Bool.and_self, if_true]
      rw [hE]
set_option maxHeartbeats 2000000 in
set_option maxRecDepth 100000 in
theorem engine_Check  (Vr : RV) (r : Rot) (c : Cr) (sf : SV) (f : Fld) {w : World} {Fr : Nat → Prop} (hr : RotR Fr w Vr r) {Ff : Nat → Prop} (hf : Sl kHind Ff w sf f.hinds)  : Ret Tryz.prog 42 [.agg (craftC Vr r c).toArray, .agg (fldC sf f).toArray] w (fun v _ => v = .int .i64 (chkE r c f)) := by
 refine ret_start (n := 13) Tryz.func42 rfl rfl rfl (fun a hS => ?_)
 have Hr : ∀ W, Below w.heap.size w W → RotR Fr W Vr r := fun W hb => hr.move (keep_of hb)
 have Hf : ∀ W, Below w.heap.size w W → Sl kHind Ff W sf f.hinds := fun W hb => hf.at_ hb
 have hmf := hf.len
 refine wpIn_seq ?_
 refine wpIn_region_lit ?_
 refine st_box_agg hS rfl rfl rfl fun W a b0 hS => st_box_agg hS rfl rfl rfl fun W a b1 hS => st_v hS rfl rfl (run_assign hS rfl) fun a hS => wl_nil ?_
 refine wpIn_seq ?_
 refine wpIn_seq ?_
 refine wpIn_region_lit ?_
 refine st_v hS rfl rfl (run_load_all (i := 1) Tryz.isAgg29 Tryz.sizeOf29 hS rfl rfl rfl) fun a hS => st_call (engine_checkCraft Vr r c (Hr _ hS.below)) Tryz.call120 hS rfl rfl rfl fun v W a hR hB hlt hS => ?_
 subst hR
 refine st_v hS rfl rfl (run_assign hS rfl) fun a hS => wl_nil ?_
 refine wpIn_seq ?_
 refine wpIn_region_lit ?_
 refine st_v hS rfl rfl (run_move hS rfl) fun a hS => st_v hS rfl rfl (run_bin hS rfl rfl rfl) fun a hS => wl_nil ?_
 refine st_cond hS rfl (fun hc1 => ?_) (fun hc1 => ?_)
 ·
  try simp only [ty] at hc1
  refine wpIn_seq ?_
  refine wpIn_region_lit ?_
  refine st_v hS rfl rfl (run_move hS rfl) fun a hS => st_v hS rfl rfl (run_assign hS rfl) fun a hS => wl_nil ?_
  refine wpIn_ret ?_
  repeat (first | refine q_ret ?_ | refine q_block_ret ?_)
  refine hS.done (res1 (fn := Tryz.f42) (r1 := .tmp 4) rfl (rv_tmp hS rfl)) ?_
  rw [chkE, if_neg hc1]
 ·
  try simp only [ty] at hc1
  refine wpIn_skip ?_
  refine wpIn_seq ?_
  refine wpIn_region_lit ?_
  refine st_v hS rfl rfl (run_load_all (i := 0) Tryz.isAgg36 Tryz.sizeOf36 hS rfl rfl rfl) fun a hS => st_call (engine_checkField sf f (Hf _ hS.below)) Tryz.call121 hS rfl rfl rfl fun v W a hR hB hlt hS => ?_
  subst hR
  refine st_v hS rfl rfl (run_assign hS rfl) fun a hS => wl_nil ?_
  refine wpIn_ret ?_
  repeat (first | refine q_ret ?_ | refine q_block_ret ?_)
  refine hS.done (res1 (fn := Tryz.f42) (r1 := .tmp 4) rfl (rv_tmp hS rfl)) ?_
  rw [chkE, if_pos hc1]
set_option maxHeartbeats 2000000 in
set_option maxRecDepth 100000 in
theorem ref03_checkField  (sf : SV) (f : Fld) {w : World} {Ff : Nat → Prop} (hf : Sl kHind Ff w sf f.hinds)  : Ret Tryz.prog 86 [.agg (fldC sf f).toArray] w (fun v _ => v = .int .i64 (fldE f)) := by
 refine ret_start (n := 51) Tryz.func86 rfl rfl rfl (fun a hS => ?_)
 have Hf : ∀ W, Below w.heap.size w W → Sl kHind Ff W sf f.hinds := fun W hb => hf.at_ hb
 have hmf := hf.len
 refine wpIn_seq ?_
 refine wpIn_region_lit ?_
 refine st_box_agg hS rfl rfl rfl fun W a b0 hS => st_v hS rfl rfl (run_assign hS rfl) fun a hS => wl_nil ?_
 refine wpIn_seq ?_
 refine wpIn_seq ?_
 refine wpIn_region_lit ?_
 refine st_v hS rfl rfl (run_fieldAddr fa36_0 hS rfl) fun a hS => st_v hS rfl rfl (run_load_one (i := 0) Tryz.isAgg3 hS rfl rfl rfl) fun a hS => st_call (ref03_within) Tryz.call139 hS rfl rfl rfl fun v W a hR hB hlt hS => ?_
 subst hR
 refine st_v hS rfl rfl (run_not hS rfl) fun a hS => st_v hS rfl rfl (run_move hS rfl) fun a hS => ?_
 refine st_split (d := 8) hS rfl (fun hc1 hS => ?_) (fun hc1 hS => ?_)
 ·
  try simp only [ty] at hc1
  refine st_skip hS (hS.unwanted rfl rfl rfl rfl) rfl fun a hS => st_skip hS (hS.unwanted rfl rfl rfl rfl) rfl fun a hS => st_skip hS (hS.unwanted rfl rfl rfl rfl) rfl fun a hS => st_skip hS (hS.unwanted rfl rfl rfl rfl) rfl fun a hS => st_v hS rfl rfl (run_pick_t hS rfl rfl) fun a hS => st_v hS rfl rfl (run_move hS rfl) fun a hS => st_skip hS (hS.unwanted rfl rfl rfl rfl) rfl fun a hS => st_skip hS (hS.unwanted rfl rfl rfl rfl) rfl fun a hS => st_skip hS (hS.unwanted rfl rfl rfl rfl) rfl fun a hS => st_skip hS (hS.unwanted rfl rfl rfl rfl) rfl fun a hS => st_v hS rfl rfl (run_pick_t hS rfl rfl) fun a hS => st_v hS rfl rfl (run_move hS rfl) fun a hS => st_skip hS (hS.unwanted rfl rfl rfl rfl) rfl fun a hS => st_skip hS (hS.unwanted rfl rfl rfl rfl) rfl fun a hS => st_skip hS (hS.unwanted rfl rfl rfl rfl) rfl fun a hS => st_skip hS (hS.unwanted rfl rfl rfl rfl) rfl fun a hS => st_v hS rfl rfl (run_pick_t hS rfl rfl) fun a hS => wl_nil ?_
  refine st_cond_t hS rfl ?_
  refine wpIn_seq ?_
  refine wpIn_region_lit ?_
  refine st_v hS rfl rfl (run_assign hS rfl) fun a hS => wl_nil ?_
  refine wpIn_ret ?_
  repeat (first | refine q_ret ?_ | refine q_block_ret ?_)
  refine hS.done (res1 (fn := Tryz.f86) (r1 := .tmp 2) rfl (rv_tmp hS rfl)) ?_
  have hE : fldE f = 31 := by simp [fldE, fldOk, hc1]
  rw [hE]
 ·
  try simp only [ty] at hc1
  refine st_v hS (hS.wanted rfl rfl rfl) rfl (run_fieldAddr fa36_1 hS rfl) fun a hS => st_v hS (hS.wanted rfl rfl rfl) rfl (run_load_one (i := 0) Tryz.isAgg3 hS rfl rfl rfl) fun a hS => st_call (ref03_within) Tryz.call139 hS (hS.wanted rfl rfl rfl) rfl rfl fun v W a hR hB hlt hS => ?_
  subst hR
  refine st_v hS (hS.wanted rfl rfl rfl) rfl (run_not hS rfl) fun a hS => st_v hS rfl rfl (run_pick_f hS rfl rfl) fun a hS => st_v hS rfl rfl (run_move hS rfl) fun a hS => ?_
  refine st_split (d := 14) hS rfl (fun hc2 hS => ?_) (fun hc2 hS => ?_)
  ·
   try simp only [ty] at hc2
   refine st_skip hS (hS.unwanted rfl rfl rfl rfl) rfl fun a hS => st_skip hS (hS.unwanted rfl rfl rfl rfl) rfl fun a hS => st_skip hS (hS.unwanted rfl rfl rfl rfl) rfl fun a hS => st_skip hS (hS.unwanted rfl rfl rfl rfl) rfl fun a hS => st_v hS rfl rfl (run_pick_t hS rfl rfl) fun a hS => st_v hS rfl rfl (run_move hS rfl) fun a hS => st_skip hS (hS.unwanted rfl rfl rfl rfl) rfl fun a hS => st_skip hS (hS.unwanted rfl rfl rfl rfl) rfl fun a hS => st_skip hS (hS.unwanted rfl rfl rfl rfl) rfl fun a hS => st_skip hS (hS.unwanted rfl rfl rfl rfl) rfl fun a hS => st_v hS rfl rfl (run_pick_t hS rfl rfl) fun a hS => wl_nil ?_
   refine st_cond_t hS rfl ?_
   refine wpIn_seq ?_
   refine wpIn_region_lit ?_
   refine st_v hS rfl rfl (run_assign hS rfl) fun a hS => wl_nil ?_
   refine wpIn_ret ?_
   repeat (first | refine q_ret ?_ | refine q_block_ret ?_)
   refine hS.done (res1 (fn := Tryz.f86) (r1 := .tmp 2) rfl (rv_tmp hS rfl)) ?_
   have hE : fldE f = 31 := by simp [fldE, fldOk, hc1, hc2]
   rw [hE]
  ·
   try simp only [ty] at hc2
   refine st_v hS (hS.wanted rfl rfl rfl) rfl (run_fieldAddr fa36_2 hS rfl) fun a hS => st_v hS (hS.wanted rfl rfl rfl) rfl (run_load_one (i := 0) Tryz.isAgg3 hS rfl rfl rfl) fun a hS => st_call (ref03_within) Tryz.call139 hS (hS.wanted rfl rfl rfl) rfl rfl fun v W a hR hB hlt hS => ?_
   subst hR
   refine st_v hS (hS.wanted rfl rfl rfl) rfl (run_not hS rfl) fun a hS => st_v hS rfl rfl (run_pick_f hS rfl rfl) fun a hS => st_v hS rfl rfl (run_move hS rfl) fun a hS => ?_
   refine st_split (d := 20) hS rfl (fun hc3 hS => ?_) (fun hc3 hS => ?_)
   ·
    try simp only [ty] at hc3
    refine st_skip hS (hS.unwanted rfl rfl rfl rfl) rfl fun a hS => st_skip hS (hS.unwanted rfl rfl rfl rfl) rfl fun a hS => st_skip hS (hS.unwanted rfl rfl rfl rfl) rfl fun a hS => st_skip hS (hS.unwanted rfl rfl rfl rfl) rfl fun a hS => st_v hS rfl rfl (run_pick_t hS rfl rfl) fun a hS => wl_nil ?_
    refine st_cond_t hS rfl ?_
    refine wpIn_seq ?_
    refine wpIn_region_lit ?_
    refine st_v hS rfl rfl (run_assign hS rfl) fun a hS => wl_nil ?_
    refine wpIn_ret ?_
    repeat (first | refine q_ret ?_ | refine q_block_ret ?_)
    refine hS.done (res1 (fn := Tryz.f86) (r1 := .tmp 2) rfl (rv_tmp hS rfl)) ?_
    have hE : fldE f = 31 := by simp [fldE, fldOk, hc1, hc2, hc3]
    rw [hE]
   ·
    try simp only [ty] at hc3
    refine st_v hS (hS.wanted rfl rfl rfl) rfl (run_fieldAddr fa36_3 hS rfl) fun a hS => st_v hS (hS.wanted rfl rfl rfl) rfl (run_load_one (i := 0) Tryz.isAgg34 hS rfl rfl rfl) fun a hS => st_v hS (hS.wanted rfl rfl rfl) rfl (run_len_slice Tryz.underlying34 hS rfl) fun a hS => st_v hS (hS.wanted rfl rfl rfl) rfl (run_bin hS rfl rfl rfl) fun a hS => st_v hS rfl rfl (run_pick_f hS rfl rfl) fun a hS => wl_nil ?_
    refine st_cond hS rfl (fun hc4 => ?_) (fun hc4 => ?_)
    ·
     try simp only [ty] at hc4
     refine wpIn_seq ?_
     refine wpIn_region_lit ?_
     refine st_v hS rfl rfl (run_assign hS rfl) fun a hS => wl_nil ?_
     refine wpIn_ret ?_
     repeat (first | refine q_ret ?_ | refine q_block_ret ?_)
     refine hS.done (res1 (fn := Tryz.f86) (r1 := .tmp 2) rfl (rv_tmp hS rfl)) ?_
     have h6 : ¬ f.hinds.length ≤ 6 := by omega
     have hE : fldE f = 31 := by simp [fldE, fldOk, h6]
     rw [hE]
    ·
     try simp only [ty] at hc4
     have h6 : f.hinds.length ≤ 6 := by omega
     refine wpIn_skip ?_
     refine wpIn_seq ?_
     refine wpIn_seq ?_
     refine wpIn_region_lit ?_
     refine st_v hS rfl rfl (run_assign hS rfl) fun a hS => wl_nil ?_
     refine wpIn_block ?_
     refine st_loop2 (α := Nat) (fun i => [(3, .int .i64 (((i : Nat) : Int)))]) [(0, _), (1, _)] (fun l _ => l) (fun i => i ≤ f.hinds.length ∧ ∀ j, j < i → hindOk (hindAt f.hinds j) = true) (fun i => f.hinds.length - i) (0) hS (Sub.cons rfl (Sub.cons rfl (Sub.cons rfl Sub.nil))) rfl (⟨Nat.zero_le _, fun j hj => absurd hj (Nat.not_lt_zero j)⟩) (fun i W a hφ hS => ?_)
     dsimp only [setB, List.cons_append, List.nil_append, List.take] at hS
     obtain ⟨hi, hg⟩ := hφ
     refine wpIn_seq ?_
     refine wpIn_seq ?_
     refine wpIn_region_lit ?_
     refine st_v hS rfl rfl (run_move hS rfl) fun a hS => st_v hS rfl rfl (run_fieldAddr fa36_3 hS rfl) fun a hS => st_v hS rfl rfl (run_load_one (i := 0) Tryz.isAgg34 hS rfl rfl rfl) fun a hS => st_v hS rfl rfl (run_len_slice Tryz.underlying34 hS rfl) fun a hS => st_v hS rfl rfl (run_bin hS rfl rfl rfl) fun a hS => wl_nil ?_
     refine st_cond hS rfl (fun hc5 => ?_) (fun hc5 => ?_)
     ·
      try simp only [ty] at hc5
      refine wpIn_skip ?_
      refine wpIn_seq ?_
      refine wpIn_block ?_
      refine wpIn_seq ?_
      refine wpIn_region_lit ?_
      refine st_v hS rfl rfl (run_fieldAddr fa36_3 hS rfl) fun a hS => st_v hS rfl rfl (run_load_one (i := 0) Tryz.isAgg34 hS rfl rfl rfl) fun a hS => st_v hS rfl rfl (run_move hS rfl) fun a hS => ?_
      obtain ⟨ad0, hA0, hL0⟩ := sl_of Hf (Below.refl _ _) hindD (i := ((i : Nat) : Int)) (j := i) (by omega) (by omega)
      refine st_v hS rfl rfl (run_indexAddr Tryz.underlying34 Tryz.sizeOf194 hS rfl rfl hA0 (by omega) (by omega)) fun a hS => st_v hS rfl rfl (run_fieldAddrE fe194_0 hS rfl) fun a hS => st_v hS rfl rfl (run_load_cell Tryz.isAgg3 hS rfl (hL0 _ hS.below 0 _ rfl)) fun a hS => st_call (ref03_within) Tryz.call139 hS rfl rfl rfl fun v W a hR hB hlt hS => ?_
      subst hR
      refine st_v hS rfl rfl (run_not hS rfl) fun a hS => st_v hS rfl rfl (run_move hS rfl) fun a hS => ?_
      refine st_split (d := 41) hS rfl (fun hc6 hS => ?_) (fun hc6 hS => ?_)
      ·
       try simp only [ty] at hc6
       refine st_skip hS (hS.unwanted rfl rfl rfl rfl) rfl fun a hS => st_skip hS (hS.unwanted rfl rfl rfl rfl) rfl fun a hS => st_skip hS (hS.unwanted rfl rfl rfl rfl) rfl fun a hS => st_skip hS (hS.unwanted rfl rfl rfl rfl) rfl fun a hS => st_skip hS (hS.unwanted rfl rfl rfl rfl) rfl fun a hS => st_skip hS (hS.unwanted rfl rfl rfl rfl) rfl fun a hS => st_skip hS (hS.unwanted rfl rfl rfl rfl) rfl fun a hS => st_skip hS (hS.unwanted rfl rfl rfl rfl) rfl fun a hS => st_v hS rfl rfl (run_pick_t hS rfl rfl) fun a hS => wl_nil ?_
       refine st_cond_t hS rfl ?_
       refine wpIn_seq ?_
       refine wpIn_region_lit ?_
       refine st_v hS rfl rfl (run_assign hS rfl) fun a hS => wl_nil ?_
       refine wpIn_ret ?_
       repeat (first | refine q_ret ?_ | refine q_block_ret ?_)
       refine hS.done (res1 (fn := Tryz.f86) (r1 := .tmp 2) rfl (rv_tmp hS rfl)) ?_
       have ha : f.hinds.all hindOk = false := all_bad (d := hindD) (i := i) (by omega) (by show hindOk (hindAt f.hinds i) = false; have a6 : within (hindAt f.hinds i).at_ (-40) 40 = false := hc6; simp [hindOk, a6])
       have hE : fldE f = 31 := by simp only [fldE, fldOk, ha, Bool.and_false]; rfl
       rw [hE]
      ·
       try simp only [ty] at hc6
       refine st_v hS (hS.wanted rfl rfl rfl) rfl (run_fieldAddr fa36_3 hS rfl) fun a hS => st_v hS (hS.wanted rfl rfl rfl) rfl (run_load_one (i := 0) Tryz.isAgg34 hS rfl rfl rfl) fun a hS => st_v hS (hS.wanted rfl rfl rfl) rfl (run_move hS rfl) fun a hS => ?_
       obtain ⟨ad1, hA1, hL1⟩ := sl_of Hf (Below.refl _ _) hindD (i := ((i : Nat) : Int)) (j := i) (by omega) (by omega)
       refine st_v hS (hS.wanted rfl rfl rfl) rfl (run_indexAddr Tryz.underlying34 Tryz.sizeOf194 hS rfl rfl hA1 (by omega) (by omega)) fun a hS => st_v hS (hS.wanted rfl rfl rfl) rfl (run_fieldAddrE fe194_1 hS rfl) fun a hS => st_v hS (hS.wanted rfl rfl rfl) rfl (run_load_cell Tryz.isAgg3 hS rfl (hL1 _ hS.below 1 _ rfl)) fun a hS => st_call (ref03_within) Tryz.call139 hS (hS.wanted rfl rfl rfl) rfl rfl fun v W a hR hB hlt hS => ?_
       subst hR
       refine st_v hS (hS.wanted rfl rfl rfl) rfl (run_not hS rfl) fun a hS => st_v hS rfl rfl (run_pick_f hS rfl rfl) fun a hS => wl_nil ?_
       refine st_cond hS rfl (fun hc7 => ?_) (fun hc7 => ?_)
       ·
        try simp only [ty] at hc7
        refine wpIn_seq ?_
        refine wpIn_region_lit ?_
        refine st_v hS rfl rfl (run_assign hS rfl) fun a hS => wl_nil ?_
        refine wpIn_ret ?_
        repeat (first | refine q_ret ?_ | refine q_block_ret ?_)
        refine hS.done (res1 (fn := Tryz.f86) (r1 := .tmp 2) rfl (rv_tmp hS rfl)) ?_
        have ha : f.hinds.all hindOk = false := all_bad (d := hindD) (i := i) (by omega) (by show hindOk (hindAt f.hinds i) = false; have a7 : within (hindAt f.hinds i).height 1 12 = false := hc7; simp [hindOk, a7])
        have hE : fldE f = 31 := by simp only [fldE, fldOk, ha, Bool.and_false]; rfl
        rw [hE]
       ·
        try simp only [ty] at hc7
        refine wpIn_skip ?_
        refine wpIn_region_lit ?_
        refine st_v hS rfl rfl (run_move hS rfl) fun a hS => st_v hS rfl rfl (run_add (t := ((i + 1 : Nat) : Int)) hS rfl rfl (by omega) (by omega) (by omega)) fun a hS => st_v hS rfl rfl (run_assign hS rfl) fun a hS => wl_nil ?_
        have hS := hS.sub (κ' := [(0, _), (1, _), (3, _)]) (Sub.cons rfl (Sub.cons rfl (Sub.cons rfl Sub.nil)))
        refine ⟨i + 1, ⟨⟨by omega, fun j hj => ?_⟩, by omega⟩, (hS.sub (Sub.cons rfl (Sub.cons rfl (Sub.cons rfl Sub.nil))))⟩
        by_cases e : j = i
        · subst e; have a6 : within (hindAt f.hinds j).at_ (-40) 40 = true := hc6; have a7 : within (hindAt f.hinds j).height 1 12 = true := hc7; simp [hindOk, a6, a7]
        · exact hg j (by omega)
     ·
      try simp only [ty] at hc5
      refine wpIn_exit ?_
      refine wpIn_seq ?_
      refine wpIn_region_lit ?_
      refine st_v hS rfl rfl (run_assign hS rfl) fun a hS => wl_nil ?_
      refine wpIn_ret ?_
      repeat (first | refine q_ret ?_ | refine q_block_ret ?_)
      refine hS.done (res1 (fn := Tryz.f86) (r1 := .tmp 2) rfl (rv_tmp hS rfl)) ?_
      have ha : f.hinds.all hindOk = true := all_good (d := hindD) fun j hj => hg j (by omega)
      have hE : fldE f = 0 := by simp only [fldE, fldOk, ha, h6, hc1, hc2, hc3, decide_true, Bool.and_self, if_true]
      rw [hE]
set_option maxHeartbeats 2000000 in
set_option maxRecDepth 100000 in
theorem ref03_Check  (Vr : RV) (r : Rot) (c : Cr) (sf : SV) (f : Fld) {w : World} {Fr : Nat → Prop} (hr : RotR Fr w Vr r) {Ff : Nat → Prop} (hf : Sl kHind Ff w sf f.hinds)  : Ret Tryz.prog 43 [.agg (craftC Vr r c).toArray, .agg (fldC sf f).toArray] w (fun v _ => v = .int .i64 (chkE r c f)) := by
 refine ret_start (n := 13) Tryz.func43 rfl rfl rfl (fun a hS => ?_)
 have Hr : ∀ W, Below w.heap.size w W → RotR Fr W Vr r := fun W hb => hr.move (keep_of hb)
 have Hf : ∀ W, Below w.heap.size w W → Sl kHind Ff W sf f.hinds := fun W hb => hf.at_ hb
 have hmf := hf.len
 refine wpIn_seq ?_
 refine wpIn_region_lit ?_
 refine st_box_agg hS rfl rfl rfl fun W a b0 hS => st_box_agg hS rfl rfl rfl fun W a b1 hS => st_v hS rfl rfl (run_assign hS rfl) fun a hS => wl_nil ?_
 refine wpIn_seq ?_
 refine wpIn_seq ?_
 refine wpIn_region_lit ?_
 refine st_v hS rfl rfl (run_load_all (i := 1) Tryz.isAgg29 Tryz.sizeOf29 hS rfl rfl rfl) fun a hS => st_call (ref03_checkCraft Vr r c (Hr _ hS.below)) Tryz.call122 hS rfl rfl rfl fun v W a hR hB hlt hS => ?_
 subst hR
 refine st_v hS rfl rfl (run_assign hS rfl) fun a hS => wl_nil ?_
 refine wpIn_seq ?_
 refine wpIn_region_lit ?_
 refine st_v hS rfl rfl (run_move hS rfl) fun a hS => st_v hS rfl rfl (run_bin hS rfl rfl rfl) fun a hS => wl_nil ?_
 refine st_cond hS rfl (fun hc1 => ?_) (fun hc1 => ?_)
 ·
  try simp only [ty] at hc1
  refine wpIn_seq ?_
  refine wpIn_region_lit ?_
  refine st_v hS rfl rfl (run_move hS rfl) fun a hS => st_v hS rfl rfl (run_assign hS rfl) fun a hS => wl_nil ?_
  refine wpIn_ret ?_
  repeat (first | refine q_ret ?_ | refine q_block_ret ?_)
  refine hS.done (res1 (fn := Tryz.f43) (r1 := .tmp 4) rfl (rv_tmp hS rfl)) ?_
  rw [chkE, if_neg hc1]
 ·
  try simp only [ty] at hc1
  refine wpIn_skip ?_
  refine wpIn_seq ?_
  refine wpIn_region_lit ?_
  refine st_v hS rfl rfl (run_load_all (i := 0) Tryz.isAgg36 Tryz.sizeOf36 hS rfl rfl rfl) fun a hS => st_call (ref03_checkField sf f (Hf _ hS.below)) Tryz.call86 hS rfl rfl rfl fun v W a hR hB hlt hS => ?_
  subst hR
  refine st_v hS rfl rfl (run_assign hS rfl) fun a hS => wl_nil ?_
  refine wpIn_ret ?_
  repeat (first | refine q_ret ?_ | refine q_block_ret ?_)
  refine hS.done (res1 (fn := Tryz.f43) (r1 := .tmp 4) rfl (rv_tmp hS rfl)) ?_
  rw [chkE, if_pos hc1]
set_option maxHeartbeats 2000000 in
set_option maxRecDepth 100000 in
theorem ref03_CheckAir  (Vr : RV) (r : Rot) (c : Cr) (A : Air) {w : World} {Fr : Nat → Prop} (hr : RotR Fr w Vr r)  : Ret Tryz.prog 85 [.agg (craftC Vr r c).toArray, .agg (airC A).toArray] w (fun v _ => v = .int .i64 (airE r c A)) := by
 refine ret_start (n := 56) Tryz.func85 rfl rfl rfl (fun a hS => ?_)
 have Hr : ∀ W, Below w.heap.size w W → RotR Fr W Vr r := fun W hb => hr.move (keep_of hb)
 refine wpIn_seq ?_
 refine wpIn_region_lit ?_
 refine st_box_agg hS rfl rfl rfl fun W a b0 hS => st_box_agg hS rfl rfl rfl fun W a b1 hS => st_v hS rfl rfl (run_assign hS rfl) fun a hS => wl_nil ?_
 refine wpIn_seq ?_
 refine wpIn_seq ?_
 refine wpIn_region_lit ?_
 refine st_v hS rfl rfl (run_load_all (i := 1) Tryz.isAgg29 Tryz.sizeOf29 hS rfl rfl rfl) fun a hS => st_call (ref03_checkCraft Vr r c (Hr _ hS.below)) Tryz.call122 hS rfl rfl rfl fun v W a hR hB hlt hS => ?_
 subst hR
 refine st_v hS rfl rfl (run_assign hS rfl) fun a hS => wl_nil ?_
 refine wpIn_seq ?_
 refine wpIn_region_lit ?_
 refine st_v hS rfl rfl (run_move hS rfl) fun a hS => st_v hS rfl rfl (run_bin hS rfl rfl rfl) fun a hS => wl_nil ?_
 refine st_cond hS rfl (fun hc1 => ?_) (fun hc1 => ?_)
 ·
  try simp only [ty] at hc1
  refine wpIn_seq ?_
  refine wpIn_region_lit ?_
  refine st_v hS rfl rfl (run_move hS rfl) fun a hS => st_v hS rfl rfl (run_assign hS rfl) fun a hS => wl_nil ?_
  refine wpIn_ret ?_
  repeat (first | refine q_ret ?_ | refine q_block_ret ?_)
  refine hS.done (res1 (fn := Tryz.f85) (r1 := .tmp 4) rfl (rv_tmp hS rfl)) ?_
  rw [airE, if_neg hc1]
 ·
  try simp only [ty] at hc1
  refine wpIn_skip ?_
  refine wpIn_seq ?_
  refine wpIn_seq ?_
  refine wpIn_region_lit ?_
  refine st_v hS rfl rfl (run_fieldAddr fa29_0 hS rfl) fun a hS => st_v hS rfl rfl (run_load_agg (i := 1) (vs := [_, _, _, _, _, _, _, _, _, _, _, _, _, _, _, _, _, _, _, _, _, _, _, _, _, _]) Tryz.isAgg27 Tryz.sizeOf27 hS rfl rfl rfl ⟨rfl, rfl, rfl, rfl, rfl, rfl, rfl, rfl, rfl, rfl, rfl, rfl, rfl, rfl, rfl, rfl, rfl, rfl, rfl, rfl, rfl, rfl, rfl, rfl, rfl, rfl, trivial⟩) fun a hS => st_v hS rfl rfl (run_load_all (i := 0) Tryz.isAgg33 Tryz.sizeOf33 hS rfl rfl rfl) fun a hS => st_call (ref02_CheckAir Vr r A (Hr _ hS.below)) Tryz.call160 hS rfl rfl rfl fun v W a hR hB hlt hS => ?_
  subst hR
  refine st_v hS rfl rfl (run_assign hS rfl) fun a hS => wl_nil ?_
  refine wpIn_seq ?_
  refine wpIn_region_lit ?_
  refine st_v hS rfl rfl (run_move hS rfl) fun a hS => st_v hS rfl rfl (run_bin hS rfl rfl rfl) fun a hS => wl_nil ?_
  refine st_cond hS rfl (fun hc2 => ?_) (fun hc2 => ?_)
  ·
   try simp only [ty] at hc2
   refine wpIn_seq ?_
   refine wpIn_region_lit ?_
   refine st_v hS rfl rfl (run_move hS rfl) fun a hS => st_v hS rfl rfl (run_assign hS rfl) fun a hS => wl_nil ?_
   refine wpIn_ret ?_
   repeat (first | refine q_ret ?_ | refine q_block_ret ?_)
   refine hS.done (res1 (fn := Tryz.f85) (r1 := .tmp 4) rfl (rv_tmp hS rfl)) ?_
   rw [airE, if_pos hc1]; exact congrArg (Value.int .i64) (errC_t hc2).symm
  ·
   try simp only [ty] at hc2
   obtain ⟨hrok, haok, _⟩ := errC_ok hc2
   have hRp := rot_p hrok
   refine wpIn_skip ?_
   refine wpIn_seq ?_
   refine wpIn_region_lit ?_
   refine st_v hS rfl rfl (run_fieldAddr fa29_0 hS rfl) fun a hS => st_v hS rfl rfl (run_load_agg (i := 1) (vs := [_, _, _, _, _, _, _, _, _, _, _, _, _, _, _, _, _, _, _, _, _, _, _, _, _, _]) Tryz.isAgg27 Tryz.sizeOf27 hS rfl rfl rfl ⟨rfl, rfl, rfl, rfl, rfl, rfl, rfl, rfl, rfl, rfl, rfl, rfl, rfl, rfl, rfl, rfl, rfl, rfl, rfl, rfl, rfl, rfl, rfl, rfl, rfl, rfl, trivial⟩) fun a hS => st_alloc_agg Tryz.zeroValue27 hS rfl rfl fun W a b2 hS => st_store (cs' := [.slice Vr.hover.x.a r.hover.X.length Vr.hover.x.c, .slice Vr.hover.y.a r.hover.Y.length Vr.hover.y.c, .slice Vr.hover.v.a r.hover.V.length Vr.hover.v.c, .slice Vr.ground.x.a r.ground.X.length Vr.ground.x.c, .slice Vr.ground.y.a r.ground.Y.length Vr.ground.y.c, .slice Vr.ground.v.a r.ground.V.length Vr.ground.v.c, .slice Vr.level.x.a r.level.X.length Vr.level.x.c, .slice Vr.level.y.a r.level.Y.length Vr.level.y.c, .slice Vr.level.v.a r.level.V.length Vr.level.v.c, .slice Vr.power.x.a r.power.X.length Vr.power.x.c, .slice Vr.power.y.a r.power.Y.length Vr.power.y.c, .slice Vr.power.v.a r.power.V.length Vr.power.v.c, .slice Vr.never.x.a r.never.X.length Vr.never.x.c, .slice Vr.never.y.a r.never.Y.length Vr.never.y.c, .slice Vr.never.v.a r.never.V.length Vr.never.v.c, .slice Vr.low.x.a r.low.X.length Vr.low.x.c, .slice Vr.low.y.a r.low.Y.length Vr.low.y.c, .slice Vr.low.v.a r.low.V.length Vr.low.v.c, .slice Vr.high.x.a r.high.X.length Vr.high.x.c, .slice Vr.high.y.a r.high.Y.length Vr.high.y.c, .slice Vr.high.v.a r.high.V.length Vr.high.v.c, .slice Vr.glide.x.a r.glide.X.length Vr.glide.x.c, .slice Vr.glide.y.a r.glide.Y.length Vr.glide.y.c, .slice Vr.glide.v.a r.glide.V.length Vr.glide.v.c, .int .i64 r.climb, .int .i64 r.burn]) (i := 0) Tryz.sizeOf27 hS rfl rfl rfl rfl rfl rfl rfl rfl rfl fun W a hS => wl_nil ?_
   refine wpIn_seq ?_
   refine wpIn_seq ?_
   refine wpIn_region_lit ?_
   refine st_v hS rfl rfl (run_fieldAddr fa27_3 hS rfl) fun a hS => st_v hS rfl rfl (run_fieldAddr fa25_0 hS rfl) fun a hS => st_v hS rfl rfl (run_load_one (i := 0) Tryz.isAgg22 hS rfl rfl rfl) fun a hS => st_v hS rfl rfl (run_fieldAddr fa33_1 hS rfl) fun a hS => st_v hS rfl rfl (run_load_agg (i := 1) (vs := [_, _]) Tryz.isAgg31 Tryz.sizeOf31 hS rfl rfl rfl ⟨rfl, rfl, trivial⟩) fun a hS => st_call (ref01_Between Vr.power.x r.power.X A.temp ((fun W hC => ((fun W hC => (Hr W hC).power) W hC).1) _ hS.below) (by first | (have := (tab_axes hRp.power.1).1.two; omega) | (have := (tab_axes hRp.power.1).2.1.two; omega) | (have := (tab_axes hRp.level.1).2.1.two; omega) | (have := (tab_axes hRp.low.1).2.1.two; omega))) Tryz.call161 hS rfl rfl rfl fun v W a hR hB hlt hS => ?_
   subst hR
   refine st_v hS rfl rfl (run_not hS rfl) fun a hS => st_v hS rfl rfl (run_move hS rfl) fun a hS => ?_
   refine st_split (d := 29) hS rfl (fun hc3 hS => ?_) (fun hc3 hS => ?_)
   ·
    try simp only [ty] at hc3
    refine st_skip hS (hS.unwanted rfl rfl rfl rfl) rfl fun a hS => st_skip hS (hS.unwanted rfl rfl rfl rfl) rfl fun a hS => st_skip hS (hS.unwanted rfl rfl rfl rfl) rfl fun a hS => st_skip hS (hS.unwanted rfl rfl rfl rfl) rfl fun a hS => st_skip hS (hS.unwanted rfl rfl rfl rfl) rfl fun a hS => st_skip hS (hS.unwanted rfl rfl rfl rfl) rfl fun a hS => st_skip hS (hS.unwanted rfl rfl rfl rfl) rfl fun a hS => st_v hS rfl rfl (run_pick_t hS rfl rfl) fun a hS => st_v hS rfl rfl (run_move hS rfl) fun a hS => st_skip hS (hS.unwanted rfl rfl rfl rfl) rfl fun a hS => st_skip hS (hS.unwanted rfl rfl rfl rfl) rfl fun a hS => st_skip hS (hS.unwanted rfl rfl rfl rfl) rfl fun a hS => st_skip hS (hS.unwanted rfl rfl rfl rfl) rfl fun a hS => st_skip hS (hS.unwanted rfl rfl rfl rfl) rfl fun a hS => st_skip hS (hS.unwanted rfl rfl rfl rfl) rfl fun a hS => st_skip hS (hS.unwanted rfl rfl rfl rfl) rfl fun a hS => st_v hS rfl rfl (run_pick_t hS rfl rfl) fun a hS => st_v hS rfl rfl (run_move hS rfl) fun a hS => st_skip hS (hS.unwanted rfl rfl rfl rfl) rfl fun a hS => st_skip hS (hS.unwanted rfl rfl rfl rfl) rfl fun a hS => st_skip hS (hS.unwanted rfl rfl rfl rfl) rfl fun a hS => st_skip hS (hS.unwanted rfl rfl rfl rfl) rfl fun a hS => st_skip hS (hS.unwanted rfl rfl rfl rfl) rfl fun a hS => st_skip hS (hS.unwanted rfl rfl rfl rfl) rfl fun a hS => st_skip hS (hS.unwanted rfl rfl rfl rfl) rfl fun a hS => st_v hS rfl rfl (run_pick_t hS rfl rfl) fun a hS => wl_nil ?_
    have hS := hS.sub (κ' := [(0, _), (1, _), (2, _), (3, _), (4, _), (5, _), (6, _), (7, _), (55, _)]) (Sub.cons rfl (Sub.cons rfl (Sub.cons rfl (Sub.cons rfl (Sub.cons rfl (Sub.cons rfl (Sub.cons rfl (Sub.cons rfl (Sub.cons rfl Sub.nil)))))))))
    refine st_cond_t hS rfl ?_
    refine wpIn_seq ?_
    refine wpIn_region_lit ?_
    refine st_v hS rfl rfl (run_assign hS rfl) fun a hS => wl_nil ?_
    refine wpIn_ret ?_
    repeat (first | refine q_ret ?_ | refine q_block_ret ?_)
    refine hS.done (res1 (fn := Tryz.f85) (r1 := .tmp 4) rfl (rv_tmp hS rfl)) ?_
    have hf : onAir r A = false := by simp [onAir, hc1, hc2, hc3]
    have hE : airE r c A = 1 := by rw [airE, if_pos hc1, errC_tf hrok haok hf]
    rw [hE]
   ·
    try simp only [ty] at hc3
    refine st_v hS (hS.wanted rfl rfl rfl) rfl (run_fieldAddr fa27_3 hS rfl) fun a hS => st_v hS (hS.wanted rfl rfl rfl) rfl (run_fieldAddr fa25_1 hS rfl) fun a hS => st_v hS (hS.wanted rfl rfl rfl) rfl (run_load_one (i := 0) Tryz.isAgg22 hS rfl rfl rfl) fun a hS => st_v hS (hS.wanted rfl rfl rfl) rfl (run_fieldAddr fa33_2 hS rfl) fun a hS => st_v hS (hS.wanted rfl rfl rfl) rfl (run_load_agg (i := 1) (vs := [_, _]) Tryz.isAgg31 Tryz.sizeOf31 hS rfl rfl rfl ⟨rfl, rfl, trivial⟩) fun a hS => st_call (ref01_Between Vr.power.y r.power.Y A.height ((fun W hC => ((fun W hC => (Hr W hC).power) W hC).2.1) _ hS.below) (by first | (have := (tab_axes hRp.power.1).1.two; omega) | (have := (tab_axes hRp.power.1).2.1.two; omega) | (have := (tab_axes hRp.level.1).2.1.two; omega) | (have := (tab_axes hRp.low.1).2.1.two; omega))) Tryz.call161 hS (hS.wanted rfl rfl rfl) rfl rfl fun v W a hR hB hlt hS => ?_
    subst hR
    refine st_v hS (hS.wanted rfl rfl rfl) rfl (run_not hS rfl) fun a hS => st_v hS rfl rfl (run_pick_f hS rfl rfl) fun a hS => st_v hS rfl rfl (run_move hS rfl) fun a hS => ?_
    refine st_split (d := 38) hS rfl (fun hc4 hS => ?_) (fun hc4 hS => ?_)
    ·
     try simp only [ty] at hc4
     refine st_skip hS (hS.unwanted rfl rfl rfl rfl) rfl fun a hS => st_skip hS (hS.unwanted rfl rfl rfl rfl) rfl fun a hS => st_skip hS (hS.unwanted rfl rfl rfl rfl) rfl fun a hS => st_skip hS (hS.unwanted rfl rfl rfl rfl) rfl fun a hS => st_skip hS (hS.unwanted rfl rfl rfl rfl) rfl fun a hS => st_skip hS (hS.unwanted rfl rfl rfl rfl) rfl fun a hS => st_skip hS (hS.unwanted rfl rfl rfl rfl) rfl fun a hS => st_v hS rfl rfl (run_pick_t hS rfl rfl) fun a hS => st_v hS rfl rfl (run_move hS rfl) fun a hS => st_skip hS (hS.unwanted rfl rfl rfl rfl) rfl fun a hS => st_skip hS (hS.unwanted rfl rfl rfl rfl) rfl fun a hS => st_skip hS (hS.unwanted rfl rfl rfl rfl) rfl fun a hS => st_skip hS (hS.unwanted rfl rfl rfl rfl) rfl fun a hS => st_skip hS (hS.unwanted rfl rfl rfl rfl) rfl fun a hS => st_skip hS (hS.unwanted rfl rfl rfl rfl) rfl fun a hS => st_skip hS (hS.unwanted rfl rfl rfl rfl) rfl fun a hS => st_v hS rfl rfl (run_pick_t hS rfl rfl) fun a hS => wl_nil ?_
     have hS := hS.sub (κ' := [(0, _), (1, _), (2, _), (3, _), (4, _), (5, _), (6, _), (7, _), (55, _)]) (Sub.cons rfl (Sub.cons rfl (Sub.cons rfl (Sub.cons rfl (Sub.cons rfl (Sub.cons rfl (Sub.cons rfl (Sub.cons rfl (Sub.cons rfl Sub.nil)))))))))
     refine st_cond_t hS rfl ?_
     refine wpIn_seq ?_
     refine wpIn_region_lit ?_
     refine st_v hS rfl rfl (run_assign hS rfl) fun a hS => wl_nil ?_
     refine wpIn_ret ?_
     repeat (first | refine q_ret ?_ | refine q_block_ret ?_)
     refine hS.done (res1 (fn := Tryz.f85) (r1 := .tmp 4) rfl (rv_tmp hS rfl)) ?_
     have hf : onAir r A = false := by simp [onAir, hc1, hc2, hc3, hc4]
     have hE : airE r c A = 1 := by rw [airE, if_pos hc1, errC_tf hrok haok hf]
     rw [hE]
    ·
     try simp only [ty] at hc4
     refine st_v hS (hS.wanted rfl rfl rfl) rfl (run_fieldAddr fa27_2 hS rfl) fun a hS => st_v hS (hS.wanted rfl rfl rfl) rfl (run_fieldAddr fa25_1 hS rfl) fun a hS => st_v hS (hS.wanted rfl rfl rfl) rfl (run_load_one (i := 0) Tryz.isAgg22 hS rfl rfl rfl) fun a hS => st_v hS (hS.wanted rfl rfl rfl) rfl (run_fieldAddr fa33_0 hS rfl) fun a hS => st_v hS (hS.wanted rfl rfl rfl) rfl (run_load_agg (i := 1) (vs := [_, _]) Tryz.isAgg31 Tryz.sizeOf31 hS rfl rfl rfl ⟨rfl, rfl, trivial⟩) fun a hS => st_call (ref01_Between Vr.level.y r.level.Y A.weight ((fun W hC => ((fun W hC => (Hr W hC).level) W hC).2.1) _ hS.below) (by first | (have := (tab_axes hRp.power.1).1.two; omega) | (have := (tab_axes hRp.power.1).2.1.two; omega) | (have := (tab_axes hRp.level.1).2.1.two; omega) | (have := (tab_axes hRp.low.1).2.1.two; omega))) Tryz.call161 hS (hS.wanted rfl rfl rfl) rfl rfl fun v W a hR hB hlt hS => ?_
     subst hR
     refine st_v hS (hS.wanted rfl rfl rfl) rfl (run_not hS rfl) fun a hS => st_v hS rfl rfl (run_pick_f hS rfl rfl) fun a hS => st_v hS rfl rfl (run_move hS rfl) fun a hS => ?_
     refine st_split (d := 47) hS rfl (fun hc5 hS => ?_) (fun hc5 hS => ?_)
     ·
      try simp only [ty] at hc5
      refine st_skip hS (hS.unwanted rfl rfl rfl rfl) rfl fun a hS => st_skip hS (hS.unwanted rfl rfl rfl rfl) rfl fun a hS => st_skip hS (hS.unwanted rfl rfl rfl rfl) rfl fun a hS => st_skip hS (hS.unwanted rfl rfl rfl rfl) rfl fun a hS => st_skip hS (hS.unwanted rfl rfl rfl rfl) rfl fun a hS => st_skip hS (hS.unwanted rfl rfl rfl rfl) rfl fun a hS => st_skip hS (hS.unwanted rfl rfl rfl rfl) rfl fun a hS => st_v hS rfl rfl (run_pick_t hS rfl rfl) fun a hS => wl_nil ?_
      have hS := hS.sub (κ' := [(0, _), (1, _), (2, _), (3, _), (4, _), (5, _), (6, _), (7, _), (55, _)]) (Sub.cons rfl (Sub.cons rfl (Sub.cons rfl (Sub.cons rfl (Sub.cons rfl (Sub.cons rfl (Sub.cons rfl (Sub.cons rfl (Sub.cons rfl Sub.nil)))))))))
      refine st_cond_t hS rfl ?_
      refine wpIn_seq ?_
      refine wpIn_region_lit ?_
      refine st_v hS rfl rfl (run_assign hS rfl) fun a hS => wl_nil ?_
      refine wpIn_ret ?_
      repeat (first | refine q_ret ?_ | refine q_block_ret ?_)
      refine hS.done (res1 (fn := Tryz.f85) (r1 := .tmp 4) rfl (rv_tmp hS rfl)) ?_
      have hf : onAir r A = false := by simp [onAir, hc1, hc2, hc3, hc4, hc5]
      have hE : airE r c A = 1 := by rw [airE, if_pos hc1, errC_tf hrok haok hf]
      rw [hE]
     ·
      try simp only [ty] at hc5
      refine st_v hS (hS.wanted rfl rfl rfl) rfl (run_fieldAddr fa27_5 hS rfl) fun a hS => st_v hS (hS.wanted rfl rfl rfl) rfl (run_fieldAddr fa25_1 hS rfl) fun a hS => st_v hS (hS.wanted rfl rfl rfl) rfl (run_load_one (i := 0) Tryz.isAgg22 hS rfl rfl rfl) fun a hS => st_v hS (hS.wanted rfl rfl rfl) rfl (run_fieldAddr fa33_0 hS rfl) fun a hS => st_v hS (hS.wanted rfl rfl rfl) rfl (run_load_agg (i := 1) (vs := [_, _]) Tryz.isAgg31 Tryz.sizeOf31 hS rfl rfl rfl ⟨rfl, rfl, trivial⟩) fun a hS => st_call (ref01_Between Vr.low.y r.low.Y A.weight ((fun W hC => ((fun W hC => (Hr W hC).low) W hC).2.1) _ hS.below) (by first | (have := (tab_axes hRp.power.1).1.two; omega) | (have := (tab_axes hRp.power.1).2.1.two; omega) | (have := (tab_axes hRp.level.1).2.1.two; omega) | (have := (tab_axes hRp.low.1).2.1.two; omega))) Tryz.call161 hS (hS.wanted rfl rfl rfl) rfl rfl fun v W a hR hB hlt hS => ?_
      subst hR
      refine st_v hS (hS.wanted rfl rfl rfl) rfl (run_not hS rfl) fun a hS => st_v hS rfl rfl (run_pick_f hS rfl rfl) fun a hS => wl_nil ?_
      have hS := hS.sub (κ' := [(0, _), (1, _), (2, _), (3, _), (4, _), (5, _), (6, _), (7, _), (55, _)]) (Sub.cons rfl (Sub.cons rfl (Sub.cons rfl (Sub.cons rfl (Sub.cons rfl (Sub.cons rfl (Sub.cons rfl (Sub.cons rfl (Sub.cons rfl Sub.nil)))))))))
      refine st_cond hS rfl (fun hc6 => ?_) (fun hc6 => ?_)
      ·
       try simp only [ty] at hc6
       refine wpIn_seq ?_
       refine wpIn_region_lit ?_
       refine st_v hS rfl rfl (run_assign hS rfl) fun a hS => wl_nil ?_
       refine wpIn_ret ?_
       repeat (first | refine q_ret ?_ | refine q_block_ret ?_)
       refine hS.done (res1 (fn := Tryz.f85) (r1 := .tmp 4) rfl (rv_tmp hS rfl)) ?_
       have hf : onAir r A = false := by simp [onAir, hc1, hc2, hc3, hc4, hc5, hc6]
       have hE : airE r c A = 1 := by rw [airE, if_pos hc1, errC_tf hrok haok hf]
       rw [hE]
      ·
       try simp only [ty] at hc6
       refine wpIn_skip ?_
       refine wpIn_seq ?_
       refine wpIn_region_lit ?_
       refine st_v hS rfl rfl (run_assign hS rfl) fun a hS => wl_nil ?_
       refine wpIn_ret ?_
       repeat (first | refine q_ret ?_ | refine q_block_ret ?_)
       refine hS.done (res1 (fn := Tryz.f85) (r1 := .tmp 4) rfl (rv_tmp hS rfl)) ?_
       have hf : onAir r A = true := by simp [onAir, hc1, hc2, hc3, hc4, hc5, hc6]
       have hE : airE r c A = 0 := by rw [airE, if_pos hc1, errC_tt hrok haok hf]
       rw [hE]
set_option maxHeartbeats 2000000 in
set_option maxRecDepth 100000 in
theorem ref03_down  {n : Int} {d : Int} {w : World}  (hd : 0 < d) (hn : -1000000000 ≤ n ∧ n ≤ 1000000000) (hd2 : d ≤ 1000000000) : Ret Tryz.prog 196 [.int .i64 n, .int .i64 d] w (fun v _ => v = .int .i64 (fl n d)) := by
 refine ret_start (n := 18) Tryz.func196 rfl rfl rfl (fun a hS => ?_)
 refine wpIn_seq ?_
 refine wpIn_region_lit ?_
 refine st_v hS rfl rfl (run_assign hS rfl) fun a hS => wl_nil ?_
 refine wpIn_seq ?_
 refine wpIn_seq ?_
 refine wpIn_region_lit ?_
 refine st_v hS rfl rfl (run_move hS rfl) fun a hS => st_v hS rfl rfl (run_bin hS rfl rfl rfl) fun a hS => wl_nil ?_
 refine st_cond hS rfl (fun hc1 => ?_) (fun hc1 => ?_)
 ·
  try simp only [ty] at hc1
  refine wpIn_seq ?_
  refine wpIn_region_lit ?_
  refine st_v hS rfl rfl (run_move hS rfl) fun a hS => st_v hS rfl rfl (run_negI (t := -(n)) hS rfl (by omega) (by omega) (by omega)) fun a hS => st_v hS rfl rfl (run_move hS rfl) fun a hS => st_v hS rfl rfl (run_add (t := (-(n)) + d) hS rfl rfl (rfl) (by omega) (by omega)) fun a hS => st_v hS rfl rfl (run_sub (t := ((-(n)) + d) - 1) hS rfl rfl (rfl) (by omega) (by omega)) fun a hS => st_v hS rfl rfl (run_move hS rfl) fun a hS => st_v hS rfl rfl (run_div (t := (-(fl n d))) hS rfl rfl (by omega) (by rw [Int.tdiv_eq_ediv_of_nonneg (by omega)]; exact up_neg hd) (by have := fl_abs hd hn (by omega); omega)) fun a hS => st_v hS rfl rfl (run_negI (t := (fl n d)) hS rfl (by omega) (by have := fl_abs hd hn (by omega); omega) (by have := fl_abs hd hn (by omega); omega)) fun a hS => st_v hS rfl rfl (run_assign hS rfl) fun a hS => wl_nil ?_
  refine wpIn_ret ?_
  repeat (first | refine q_ret ?_ | refine q_block_ret ?_)
  refine hS.done (res1 (fn := Tryz.f196) (r1 := .tmp 4) rfl (rv_tmp hS rfl)) ?_
  rfl
 ·
  try simp only [ty] at hc1
  refine wpIn_skip ?_
  refine wpIn_seq ?_
  refine wpIn_region_lit ?_
  refine st_v hS rfl rfl (run_move hS rfl) fun a hS => st_v hS rfl rfl (run_move hS rfl) fun a hS => st_v hS rfl rfl (run_div (t := (fl n d)) hS rfl rfl (by omega) (by exact Int.tdiv_eq_ediv_of_nonneg (by omega)) (by have := fl_abs hd hn (by omega); omega)) fun a hS => st_v hS rfl rfl (run_assign hS rfl) fun a hS => wl_nil ?_
  refine wpIn_ret ?_
  repeat (first | refine q_ret ?_ | refine q_block_ret ?_)
  refine hS.done (res1 (fn := Tryz.f196) (r1 := .tmp 4) rfl (rv_tmp hS rfl)) ?_
  rfl
end Go.Proofs.YtdnodlgebpnfoaaGreat
namespace Go.Proofs.YtdnodlgebpnfoaaGreat
open Go Go.RowKit Go.Shelf Sw
structure Site where
  c : Cr
  f : Fld
  all : List Int
  single : List Int
  wake : List (List Bool)
def Site.rate (S : Site) (e : Bool) : List Int := if e then S.single else S.all
def wakeRow (S : Site) (v : Int) : List Bool := S.wake.getD v.toNat []
def validP (S : Site) (p : Pose) : Bool := within p.x (-40) 40 && within p.speed 0 S.c.top && within p.height 0 12
def downP (S : Site) (p : Pose) : Bool := p.height == 0 && decide (p.speed ≤ S.c.touch) && within p.x 0 S.f.length
def awayP (S : Site) (p : Pose) : Bool := decide (S.f.clear ≤ p.height) && decide (S.f.safe ≤ p.speed) && decide (0 ≤ ix S.single p.speed.toNat)
def hits (p q : Pose) (h : Hind) : Bool := within h.at_ p.x q.x && decide (min2 p.height q.height < h.height)
def blocked (S : Site) (p q : Pose) : Bool := S.f.hinds.any (hits p q)
def endsB (S : Site) (p q : Pose) : Bool := q.height == 0 && (p.height == 0 || (decide (S.c.sink < p.height) || !downP S q))
def sinksB (S : Site) (p q : Pose) : Bool := decide (0 < q.height) && (decide (q.height < p.height) && (wakeRow S q.speed).getD (p.height - q.height).toNat false)
def stepOk (S : Site) (p q : Pose) : Bool := decide (q.x ≤ 40) && (!endsB S p q && (!sinksB S p q && !blocked S p q))
def hlo (S : Site) (p : Pose) : Int := max2 0 (p.height - S.c.drop)
def vlo (p : Pose) : Int := max2 0 (p.speed - 1)
def hcnt (S : Site) (e : Bool) (p : Pose) (v : Int) : Nat := (min2 12 (p.height + ix (S.rate e) v.toNat) + 1 - hlo S p).toNat
def vcnt (S : Site) (p : Pose) : Nat := (min2 S.c.top (p.speed + 1) + 1 - vlo p).toNat
def rowN (S : Site) (p : Pose) (v : Int) (j : Nat) : List Pose := ((List.range j).map fun (i : Nat) => (⟨p.x + v, v, hlo S p + (i : Int)⟩ : Pose)).filter (stepOk S p)
def stepsN (S : Site) (e : Bool) (p : Pose) (k : Nat) : List Pose := (List.range k).flatMap fun (i : Nat) => rowN S p (vlo p + (i : Int)) (hcnt S e p (vlo p + (i : Int)))
def stepsL (S : Site) (e : Bool) (p : Pose) : List Pose := stepsN S e p (vcnt S p)
theorem rowN_succ (S : Site) (p : Pose) (v : Int) (j : Nat) : rowN S p v (j + 1) = rowN S p v j ++ (if stepOk S p ⟨p.x + v, v, hlo S p + (j : Int)⟩ then [⟨p.x + v, v, hlo S p + (j : Int)⟩] else []) := by
  unfold rowN; rw [List.range_succ, List.map_append, List.filter_append]
  congr 1
  simp only [List.map_cons, List.map_nil, List.filter_cons, List.filter_nil]
theorem stepsN_succ (S : Site) (e : Bool) (p : Pose) (k : Nat) : stepsN S e p (k + 1) = stepsN S e p k ++ rowN S p (vlo p + (k : Int)) (hcnt S e p (vlo p + (k : Int))) := by
  unfold stepsN; rw [List.range_succ, List.flatMap_append]
  congr 1
  simp only [List.flatMap_cons, List.flatMap_nil, List.append_nil]
theorem min2_eq (p q : Int) : min2 p q = min p q := by unfold min2; split <;> omega
theorem max2_eq (p q : Int) : max2 p q = max p q := by unfold max2; split <;> omega
theorem validP_iff {S : Site} {p : Pose} : validP S p = true ↔ (-40 ≤ p.x ∧ p.x ≤ 40) ∧ (0 ≤ p.speed ∧ p.speed ≤ S.c.top) ∧ 0 ≤ p.height ∧ p.height ≤ 12 := by
  simp only [validP, within, Bool.and_eq_true, decide_eq_true_eq, and_assoc]
theorem mem_steps {S : Site} {e : Bool} {p q : Pose} : q ∈ stepsL S e p ↔ stepOk S p q = true ∧ q.x = p.x + q.speed ∧ (0 ≤ q.speed ∧ p.speed - 1 ≤ q.speed ∧ q.speed ≤ S.c.top ∧ q.speed ≤ p.speed + 1) ∧
    (0 ≤ q.height ∧ p.height - S.c.drop ≤ q.height ∧ q.height ≤ 12 ∧ q.height ≤ p.height + ix (S.rate e) q.speed.toNat) := by
  unfold stepsL stepsN
  simp only [List.mem_flatMap, List.mem_range]
  constructor
  · rintro ⟨i, hi, hq⟩
    unfold rowN at hq
    rw [List.mem_filter, List.mem_map] at hq
    obtain ⟨⟨j, hj, rfl⟩, hok⟩ := hq
    rw [List.mem_range] at hj
    unfold vcnt at hi
    unfold hcnt at hj
    have h1 : vlo p = max 0 (p.speed - 1) := max2_eq _ _
    have h2 : hlo S p = max 0 (p.height - S.c.drop) := max2_eq _ _
    rw [min2_eq] at hi hj
    refine ⟨hok, rfl, ?_, ?_⟩
    · show 0 ≤ vlo p + (i : Int) ∧ p.speed - 1 ≤ vlo p + (i : Int) ∧ vlo p + (i : Int) ≤ S.c.top ∧ vlo p + (i : Int) ≤ p.speed + 1
      omega
    · show 0 ≤ hlo S p + (j : Int) ∧ p.height - S.c.drop ≤ hlo S p + (j : Int) ∧ hlo S p + (j : Int) ≤ 12 ∧ hlo S p + (j : Int) ≤ p.height + ix (S.rate e) (vlo p + (i : Int)).toNat
      omega
  · rintro ⟨hok, hx, hv, hh⟩
    have h1 : vlo p = max 0 (p.speed - 1) := max2_eq _ _
    have h2 : hlo S p = max 0 (p.height - S.c.drop) := max2_eq _ _
    refine ⟨(q.speed - vlo p).toNat, by unfold vcnt; rw [min2_eq]; omega, ?_⟩
    have e1 : vlo p + (((q.speed - vlo p).toNat : Nat) : Int) = q.speed := by omega
    rw [e1]
    unfold rowN
    rw [List.mem_filter, List.mem_map]
    refine ⟨⟨(q.height - hlo S p).toNat, ?_, ?_⟩, hok⟩
    · rw [List.mem_range]; unfold hcnt; rw [min2_eq]; omega
    · have e2 : hlo S p + (((q.height - hlo S p).toNat : Nat) : Int) = q.height := by omega
      rw [e2, ← hx]
theorem steps_valid {S : Site} {e : Bool} {p q : Pose} (hp : validP S p = true) (h : q ∈ stepsL S e p) : validP S q = true := by
  obtain ⟨hok, hx, hv, hh⟩ := mem_steps.1 h
  rw [validP_iff] at hp ⊢
  simp only [stepOk, Bool.and_eq_true, decide_eq_true_eq] at hok
  omega
theorem rowN_len (S : Site) (p : Pose) (v : Int) (j : Nat) : (rowN S p v j).length ≤ j := by
  unfold rowN
  exact Nat.le_trans (List.length_filter_le _ _) (by simp)
def clV (S : Site) (q : Pose) : Pose := if validP S q then q else ⟨0, 0, 0⟩
theorem clV_of {S : Site} {q : Pose} (h : validP S q = true) : clV S q = q := if_pos h
theorem clV_valid {S : Site} (ht : 0 ≤ S.c.top) (q : Pose) : validP S (clV S q) = true := by
  unfold clV; split
  · assumption
  · rw [validP_iff]; simp only; omega
theorem clV_map {S : Site} : ∀ {l : List Pose}, (∀ q ∈ l, validP S q = true) → l.map (clV S) = l
  | [], _ => rfl
  | q :: l, h => by rw [List.map_cons, clV_of (h q (by simp)), clV_map fun x hx => h x (by simp [hx])]
structure Nd where
  at_ : Pose
  par : Pose
  way : List Pose
def isIn (E : List Nd) (q : Pose) : Bool := E.any fun n => decide (n.at_ = q)
def addN (pass : Pose → Bool) (nd : Nd) (E : List Nd) (q : Pose) : List Nd := if isIn E q || !pass q then E else E ++ [⟨q, nd.at_, nd.way ++ [q]⟩]
def expN (pass : Pose → Bool) (nd : Nd) (E : List Nd) (qs : List Pose) : List Nd := qs.foldl (addN pass nd) E
def bfs (nx : Pose → List Pose) (fin pass : Pose → Bool) : Nat → List Nd → Nat → Option (List Pose)
  | 0, _, _ => none
  | k + 1, E, i => match E[i]? with
    | none => none
    | some nd => if fin nd.at_ then some nd.way else bfs nx fin pass k (expN pass nd E (nx nd.at_)) (i + 1)
def root (p : Pose) : List Nd := [⟨p, p, []⟩]
def wayP (nx : Pose → List Pose) (fin pass : Pose → Bool) (p : Pose) : Option (List Pose) := bfs nx fin pass 7372 (root p) 0
theorem isIn_iff {E : List Nd} {q : Pose} : isIn E q = true ↔ ∃ n ∈ E, n.at_ = q := by
  unfold isIn; simp only [List.any_eq_true, decide_eq_true_eq]
theorem isIn_f {E : List Nd} {q : Pose} : isIn E q = false ↔ ∀ n ∈ E, n.at_ ≠ q := by
  unfold isIn; simp only [List.any_eq_false, decide_eq_true_eq, ne_eq]
theorem expN_snoc (pass : Pose → Bool) (nd : Nd) (E : List Nd) (qs : List Pose) (q : Pose) : expN pass nd E (qs ++ [q]) = addN pass nd (expN pass nd E qs) q := by
  unfold expN; rw [List.foldl_append]; rfl
theorem addN_pre {pass : Pose → Bool} {nd : Nd} {E : List Nd} {q : Pose} : ∃ F, addN pass nd E q = E ++ F := by
  unfold addN; split
  · exact ⟨[], by simp⟩
  · exact ⟨_, rfl⟩
theorem expN_pre {pass : Pose → Bool} {nd : Nd} : ∀ (qs : List Pose) (E : List Nd), ∃ F, expN pass nd E qs = E ++ F
  | [], E => ⟨[], by simp [expN]⟩
  | q :: qs, E => by
    obtain ⟨F1, h1⟩ := addN_pre (pass := pass) (nd := nd) (E := E) (q := q)
    obtain ⟨F2, h2⟩ := expN_pre (pass := pass) (nd := nd) qs (addN pass nd E q)
    refine ⟨F1 ++ F2, ?_⟩
    show expN pass nd (addN pass nd E q) qs = _
    rw [h2, h1, List.append_assoc]
theorem expN_get {pass : Pose → Bool} {nd : Nd} {qs : List Pose} {E : List Nd} {j : Nat} {x : Nd} (h : E[j]? = some x) : (expN pass nd E qs)[j]? = some x := by
  obtain ⟨F, hF⟩ := expN_pre (pass := pass) (nd := nd) qs E
  rw [hF, List.getElem?_append_left (List.getElem?_eq_some_iff.1 h).1]; exact h
theorem expN_len {pass : Pose → Bool} {nd : Nd} {qs : List Pose} {E : List Nd} : E.length ≤ (expN pass nd E qs).length := by
  obtain ⟨F, hF⟩ := expN_pre (pass := pass) (nd := nd) qs E
  rw [hF, List.length_append]; omega
theorem few : ∀ (n : Nat) (l : List Nat), l.Nodup → (∀ x ∈ l, x < n) → l.length ≤ n
  | 0, l, _, h => by
    cases l with
    | nil => simp
    | cons x xs => exact absurd (h x (by simp)) (by omega)
  | n + 1, l, hd, h => by
    have h1 := few n (l.erase n) (hd.erase n) (fun x hx => by
      have h2 := (hd.mem_erase_iff).1 hx
      have := h x h2.2
      omega)
    have h2 := List.length_erase (a := n) (l := l)
    split at h2 <;> omega
def numP (p : Pose) : Nat := (((p.x + 40) * 7 + p.speed) * 13 + p.height).toNat
theorem numP_lt {p : Pose} (h : (-40 ≤ p.x ∧ p.x ≤ 40) ∧ (0 ≤ p.speed ∧ p.speed ≤ 6) ∧ 0 ≤ p.height ∧ p.height ≤ 12) : numP p < 7371 := by unfold numP; omega
theorem numP_inj {p q : Pose} (hp : (-40 ≤ p.x ∧ p.x ≤ 40) ∧ (0 ≤ p.speed ∧ p.speed ≤ 6) ∧ 0 ≤ p.height ∧ p.height ≤ 12) (hq : (-40 ≤ q.x ∧ q.x ≤ 40) ∧ (0 ≤ q.speed ∧ q.speed ≤ 6) ∧ 0 ≤ q.height ∧ q.height ≤ 12)
    (h : numP p = numP q) : p = q := by
  unfold numP at h
  cases p; cases q
  simp only at hp hq h
  simp only [Pose.mk.injEq]
  omega
structure Seen (V : Pose → Prop) (p : Pose) (E : List Nd) : Prop where
  zero : E[0]? = some ⟨p, p, []⟩
  nodup : (E.map (·.at_)).Nodup
  valid : ∀ n ∈ E, V n.at_
  pars : ∀ (j : Nat) (n : Nd), E[j]? = some n → 1 ≤ j → ∃ k m, k < j ∧ E[k]? = some m ∧ n.par = m.at_ ∧ n.way = m.way ++ [n.at_]
theorem Seen.root {V : Pose → Prop} {p : Pose} (h : V p) : Seen V p (root p) :=
  ⟨rfl, by simp [Go.Proofs.YtdnodlgebpnfoaaGreat.root], fun n hn => by simp [Go.Proofs.YtdnodlgebpnfoaaGreat.root] at hn; subst hn; exact h, fun j n hj h1 => by
    have := (List.getElem?_eq_some_iff.1 hj).1
    simp [Go.Proofs.YtdnodlgebpnfoaaGreat.root] at this; omega⟩
theorem Seen.add {V : Pose → Prop} {p q : Pose} {E : List Nd} {pass : Pose → Bool} {nd : Nd} (h : Seen V p E) {i : Nat} (hi : E[i]? = some nd) (hq : V q) : Seen V p (addN pass nd E q) := by
  unfold addN
  split
  · exact h
  · rename_i hc
    simp only [Bool.or_eq_true, not_or, Bool.not_eq_true] at hc
    have hn := isIn_f.1 hc.1
    have hl : 0 < E.length := (List.getElem?_eq_some_iff.1 h.zero).1
    refine ⟨by rw [List.getElem?_append_left hl]; exact h.zero, ?_, ?_, ?_⟩
    · rw [List.map_append, List.nodup_append]
      refine ⟨h.nodup, by simp, ?_⟩
      intro a ha b hb
      simp only [List.map_cons, List.map_nil, List.mem_singleton] at hb
      subst hb
      obtain ⟨m, hm, rfl⟩ := List.mem_map.1 ha
      exact hn m hm
    · intro n hn'
      rcases List.mem_append.1 hn' with hn' | hn'
      · exact h.valid n hn'
      · rw [List.mem_singleton.1 hn']; exact hq
    · intro j n hj h1
      by_cases hlt : j < E.length
      · rw [List.getElem?_append_left hlt] at hj
        obtain ⟨k, m, h2, h3, h4⟩ := h.pars j n hj h1
        exact ⟨k, m, h2, by rw [List.getElem?_append_left (by omega)]; exact h3, h4⟩
      · have hjl : j = E.length := by
          have := (List.getElem?_eq_some_iff.1 hj).1
          simp at this; omega
        subst hjl
        rw [List.getElem?_append_right (Nat.le_refl _), Nat.sub_self] at hj
        simp only [List.getElem?_cons_zero, Option.some.injEq] at hj
        subst hj
        have hil := (List.getElem?_eq_some_iff.1 hi).1
        exact ⟨i, nd, hil, by rw [List.getElem?_append_left hil]; exact hi, rfl, rfl⟩
theorem addN_get {E : List Nd} {pass : Pose → Bool} {nd x : Nd} {q : Pose} {j : Nat} (h : E[j]? = some x) : (addN pass nd E q)[j]? = some x := by
  obtain ⟨F, hF⟩ := addN_pre (pass := pass) (nd := nd) (E := E) (q := q)
  rw [hF, List.getElem?_append_left (List.getElem?_eq_some_iff.1 h).1]; exact h
theorem Seen.exp {V : Pose → Prop} {p : Pose} {pass : Pose → Bool} {nd : Nd} {i : Nat} : ∀ (qs : List Pose) {E : List Nd}, Seen V p E → E[i]? = some nd → (∀ q ∈ qs, V q) → Seen V p (expN pass nd E qs)
  | [], E, h, _, _ => h
  | q :: qs, E, h, hi, hq => Seen.exp qs (h.add hi (hq q (by simp))) (addN_get hi) (fun x hx => hq x (by simp [hx]))
theorem Seen.few {S : Site} {p : Pose} {E : List Nd} (h : Seen (fun q => validP S q = true) p E) (ht : S.c.top ≤ 6) : E.length ≤ 7371 := by
  have hb : ∀ n ∈ E, (-40 ≤ n.at_.x ∧ n.at_.x ≤ 40) ∧ (0 ≤ n.at_.speed ∧ n.at_.speed ≤ 6) ∧ 0 ≤ n.at_.height ∧ n.at_.height ≤ 12 := fun n hn => by
    have := validP_iff.1 (h.valid n hn); omega
  have h1 : (E.map fun n => numP n.at_).length ≤ 7371 := by
    refine Go.Proofs.YtdnodlgebpnfoaaGreat.few 7371 _ ?_ ?_
    · have hd := h.nodup
      unfold List.Nodup at hd ⊢
      rw [List.pairwise_map] at hd ⊢
      exact hd.imp_of_mem (fun {a b} ha hb' hne e => hne (numP_inj (hb a ha) (hb b hb') e))
    · intro x hx
      obtain ⟨n, hn, rfl⟩ := List.mem_map.1 hx
      exact numP_lt (hb n hn)
  rwa [List.length_map] at h1
theorem bfs_step {nx : Pose → List Pose} {fin pass : Pose → Bool} {k i : Nat} {E : List Nd} {nd : Nd} (hi : E[i]? = some nd) (hf : fin nd.at_ = false) : bfs nx fin pass (k + 1) E i = bfs nx fin pass k (expN pass nd E (nx nd.at_)) (i + 1) := by
  rw [bfs, hi]; simp only [hf, Bool.false_eq_true, if_false]
theorem bfs_found {nx : Pose → List Pose} {fin pass : Pose → Bool} {k i : Nat} {E : List Nd} {nd : Nd} (hi : E[i]? = some nd) (hf : fin nd.at_ = true) : bfs nx fin pass (k + 1) E i = some nd.way := by
  rw [bfs, hi]; simp only [hf, if_true]
theorem bfs_none {nx : Pose → List Pose} {fin pass : Pose → Bool} {k i : Nat} {E : List Nd} (hi : E.length ≤ i) : bfs nx fin pass k E i = none := by
  cases k with
  | zero => rfl
  | succ k => rw [bfs, List.getElem?_eq_none hi]
def Pth (nx : Pose → List Pose) (pass : Pose → Bool) : Pose → List Pose → Prop
  | _, [] => True
  | p, q :: l => q ∈ nx p ∧ pass q = true ∧ Pth nx pass q l
def lastP (p : Pose) : List Pose → Pose
  | [] => p
  | q :: l => lastP q l
theorem lastP_snoc (p q : Pose) : ∀ l : List Pose, lastP p (l ++ [q]) = q
  | [] => rfl
  | x :: l => lastP_snoc x q l
theorem Pth.snoc {nx : Pose → List Pose} {pass : Pose → Bool} {q : Pose} : ∀ {l : List Pose} {p : Pose}, Pth nx pass p l → q ∈ nx (lastP p l) → pass q = true → Pth nx pass p (l ++ [q])
  | [], _, _, h2, h3 => ⟨h2, h3, trivial⟩
  | _ :: _, _, h1, h2, h3 => ⟨h1.1, h1.2.1, Pth.snoc h1.2.2 h2 h3⟩
theorem Pth.app {nx : Pose → List Pose} {pass : Pose → Bool} {m : List Pose} : ∀ {l : List Pose} {p : Pose}, Pth nx pass p l → Pth nx pass (lastP p l) m → Pth nx pass p (l ++ m)
  | [], _, _, h2 => h2
  | _ :: _, _, h1, h2 => ⟨h1.1, h1.2.1, Pth.app h1.2.2 h2⟩
theorem lastP_app (m : List Pose) : ∀ (l : List Pose) (p : Pose), lastP p (l ++ m) = lastP (lastP p l) m
  | [], _ => rfl
  | _ :: l, _ => lastP_app m l _
structure Wide (nx : Pose → List Pose) (fin pass : Pose → Bool) (p : Pose) (E : List Nd) (i : Nat) : Prop where
  ways : ∀ n ∈ E, Pth nx pass p n.way ∧ lastP p n.way = n.at_
  done : ∀ (j : Nat) (n : Nd), j < i → E[j]? = some n → fin n.at_ = false ∧ ∀ q ∈ nx n.at_, pass q = true → isIn E q = true
theorem Wide.root (nx : Pose → List Pose) (fin pass : Pose → Bool) (p : Pose) : Wide nx fin pass p (root p) 0 :=
  ⟨fun n hn => by simp [Go.Proofs.YtdnodlgebpnfoaaGreat.root] at hn; subst hn; exact ⟨trivial, rfl⟩, fun j n hj => by omega⟩
theorem isIn_exp {E : List Nd} {pass : Pose → Bool} {nd : Nd} {qs : List Pose} {x : Pose} (h : isIn E x = true) : isIn (expN pass nd E qs) x = true := by
  obtain ⟨F, hF⟩ := expN_pre (pass := pass) (nd := nd) qs E
  obtain ⟨n, hn, e⟩ := isIn_iff.1 h
  rw [hF]; exact isIn_iff.2 ⟨n, List.mem_append_left _ hn, e⟩
theorem exp_all {pass : Pose → Bool} {nd : Nd} : ∀ (qs : List Pose) (E : List Nd), ∀ q ∈ qs, pass q = true → isIn (expN pass nd E qs) q = true
  | x :: qs, E, q, hq, hp => by
    rcases List.mem_cons.1 hq with rfl | hq
    · refine isIn_exp (qs := qs) (E := addN pass nd E q) ?_
      unfold addN
      split
      · rename_i hc
        rw [hp, Bool.not_true, Bool.or_false] at hc; exact hc
      · exact isIn_iff.2 ⟨_, List.mem_append_right _ (List.mem_singleton.2 rfl), rfl⟩
    · exact exp_all qs (addN pass nd E x) q hq hp
theorem exp_ways {nx : Pose → List Pose} {pass : Pose → Bool} {p : Pose} {nd : Nd} (hw : Pth nx pass p nd.way ∧ lastP p nd.way = nd.at_) : ∀ (qs : List Pose) (E : List Nd), (∀ q ∈ qs, q ∈ nx nd.at_) → (∀ n ∈ E, Pth nx pass p n.way ∧ lastP p n.way = n.at_) → ∀ n ∈ expN pass nd E qs, Pth nx pass p n.way ∧ lastP p n.way = n.at_
  | [], E, _, h, n, hn => h n hn
  | q :: qs, E, hq, h, n, hn => by
    refine exp_ways hw qs (addN pass nd E q) (fun x hx => hq x (by simp [hx])) ?_ n hn
    intro m hm
    unfold addN at hm
    split at hm
    · exact h m hm
    · rename_i hc
      simp only [Bool.or_eq_true, not_or, Bool.not_eq_true, Bool.not_eq_false'] at hc
      rcases List.mem_append.1 hm with hm | hm
      · exact h m hm
      · rw [List.mem_singleton.1 hm]
        exact ⟨Pth.snoc hw.1 (by rw [hw.2]; exact hq q (by simp)) (by simpa using hc.2), lastP_snoc _ _ _⟩
theorem Wide.next {nx : Pose → List Pose} {fin pass : Pose → Bool} {p : Pose} {E : List Nd} {i : Nat} {nd : Nd} (h : Wide nx fin pass p E i) (hi : E[i]? = some nd) (hf : fin nd.at_ = false) : Wide nx fin pass p (expN pass nd E (nx nd.at_)) (i + 1) := by
  have hil := (List.getElem?_eq_some_iff.1 hi).1
  refine ⟨exp_ways (h.ways nd (List.mem_of_getElem? hi)) _ _ (fun q hq => hq) h.ways, fun j n hj hn => ?_⟩
  obtain ⟨F, hF⟩ := expN_pre (pass := pass) (nd := nd) (nx nd.at_) E
  have hn' : E[j]? = some n := by rw [hF, List.getElem?_append_left (by omega)] at hn; exact hn
  by_cases e : j = i
  · subst e
    rw [hi] at hn'; cases hn'
    exact ⟨hf, fun q hq hp => exp_all _ _ q hq hp⟩
  · obtain ⟨h1, h2⟩ := h.done j n (by omega) hn'
    exact ⟨h1, fun q hq hp => isIn_exp (h2 q hq hp)⟩
theorem Wide.stays {nx : Pose → List Pose} {fin pass : Pose → Bool} {p : Pose} {E : List Nd} (h : Wide nx fin pass p E E.length) : ∀ (l : List Pose) (q : Pose), isIn E q = true → Pth nx pass q l → isIn E (lastP q l) = true
  | [], _, hq, _ => hq
  | x :: l, q, hq, hl => by
    obtain ⟨n, hn, rfl⟩ := isIn_iff.1 hq
    obtain ⟨j, hj⟩ := List.getElem?_of_mem hn
    have := (h.done j n (List.getElem?_eq_some_iff.1 hj).1 hj).2 x hl.1 hl.2.1
    exact Wide.stays h l x this hl.2.2
theorem bfs_spec {nx : Pose → List Pose} {fin pass : Pose → Bool} {p : Pose} {V : Pose → Prop} (hV : ∀ q, V q → ∀ x ∈ nx q, V x) (hE : ∀ E, Seen V p E → E.length ≤ 7371) :
    ∀ (k i : Nat) (E : List Nd), k + i = 7372 → i ≤ E.length → Seen V p E → Wide nx fin pass p E i →
      (∃ n : Nd, bfs nx fin pass k E i = some n.way ∧ Pth nx pass p n.way ∧ lastP p n.way = n.at_ ∧ fin n.at_ = true) ∨ (bfs nx fin pass k E i = none ∧ ∀ l, Pth nx pass p l → fin (lastP p l) = false)
  | 0, i, E, hk, hi, hs, _ => by have := hE E hs; omega
  | k + 1, i, E, hk, hi, hs, hw => by
    by_cases hlt : i < E.length
    · obtain ⟨nd, hnd⟩ : ∃ nd, E[i]? = some nd := ⟨_, List.getElem?_eq_getElem hlt⟩
      cases hf : fin nd.at_ with
      | true =>
        have h1 := hw.ways nd (List.mem_of_getElem? hnd)
        exact .inl ⟨nd, bfs_found hnd hf, h1.1, h1.2, hf⟩
      | false =>
        rw [bfs_step hnd hf]
        have hv := hs.valid nd (List.mem_of_getElem? hnd)
        exact bfs_spec hV hE k (i + 1) _ (by omega) (by have := expN_len (pass := pass) (nd := nd) (qs := nx nd.at_) (E := E); omega) (hs.exp _ hnd (hV _ hv)) (hw.next hnd hf)
    · have e : i = E.length := by omega
      subst e
      refine .inr ⟨bfs_none (Nat.le_refl _), fun l hl => ?_⟩
      have h0 : isIn E p = true := isIn_iff.2 ⟨_, List.mem_of_getElem? hs.zero, rfl⟩
      obtain ⟨n, hn, e⟩ := isIn_iff.1 (hw.stays l p h0 hl)
      obtain ⟨j, hj⟩ := List.getElem?_of_mem hn
      rw [← e]
      exact (hw.done j n (List.getElem?_eq_some_iff.1 hj).1 hj).1
theorem wayP_spec {S : Site} {e : Bool} {fin pass : Pose → Bool} {p : Pose} (hp : validP S p = true) (ht : S.c.top ≤ 6) :
    (∃ l, wayP (stepsL S e) fin pass p = some l ∧ Pth (stepsL S e) pass p l ∧ fin (lastP p l) = true) ∨ (wayP (stepsL S e) fin pass p = none ∧ ∀ l, Pth (stepsL S e) pass p l → fin (lastP p l) = false) := by
  rcases bfs_spec (nx := stepsL S e) (fin := fin) (pass := pass) (p := p) (V := fun q => validP S q = true) (fun q hq x hx => steps_valid hq hx) (fun E hE => hE.few ht) 7372 0 (root p) rfl (by simp [root]) (Seen.root hp) (Wide.root _ _ _ _) with ⟨n, h1, h2, h3, h4⟩ | h
  · exact .inl ⟨n.way, h1, h2, by rw [h3]; exact h4⟩
  · exact .inr h
theorem wayP_some {S : Site} {e : Bool} {fin pass : Pose → Bool} {p : Pose} (hp : validP S p = true) (ht : S.c.top ≤ 6) : (wayP (stepsL S e) fin pass p).isSome = true ↔ ∃ l, Pth (stepsL S e) pass p l ∧ fin (lastP p l) = true := by
  rcases wayP_spec (S := S) (e := e) (fin := fin) (pass := pass) hp ht with ⟨l, h1, h2, h3⟩ | ⟨h1, h2⟩
  · rw [h1]; exact ⟨fun _ => ⟨l, h2, h3⟩, fun _ => rfl⟩
  · rw [h1]
    constructor
    · intro h; cases h
    rintro ⟨l, h3, h4⟩
    rw [h2 l h3] at h4; cases h4
def coverEnd (S : Site) (q : Pose) : Bool := downP S q || awayP S q
def anyP (_ : Pose) : Bool := true
def Cov (S : Site) (p : Pose) : Bool := (wayP (stepsL S true) (coverEnd S) anyP p).isSome
theorem Pth.valid {S : Site} {e : Bool} {pass : Pose → Bool} : ∀ {l : List Pose} {p : Pose}, validP S p = true → Pth (stepsL S e) pass p l → validP S (lastP p l) = true
  | [], _, hp, _ => hp
  | x :: l, _, hp, hl => Pth.valid (l := l) (p := x) (steps_valid hp hl.1) hl.2.2
theorem cov_memo {S : Site} {p : Pose} (hp : validP S p = true) (ht : S.c.top ≤ 6) {known : Pose → Bool} (hk : ∀ q, validP S q = true → known q = true → Cov S q = true) :
    (wayP (stepsL S true) (fun q => coverEnd S q || known q) anyP p).isSome = Cov S p := by
  rw [Bool.eq_iff_iff, wayP_some hp ht, Cov, wayP_some hp ht]
  constructor
  · rintro ⟨l, h1, h2⟩
    rw [Bool.or_eq_true] at h2
    rcases h2 with h2 | h2
    · exact ⟨l, h1, h2⟩
    · have hv := Pth.valid hp h1
      obtain ⟨m, h3, h4⟩ := (wayP_some hv ht).1 (hk _ hv h2)
      exact ⟨l ++ m, h1.app h3, by rw [lastP_app]; exact h4⟩
  · rintro ⟨l, h1, h2⟩
    exact ⟨l, h1, by rw [h2, Bool.true_or]⟩
end Go.Proofs.YtdnodlgebpnfoaaGreat
