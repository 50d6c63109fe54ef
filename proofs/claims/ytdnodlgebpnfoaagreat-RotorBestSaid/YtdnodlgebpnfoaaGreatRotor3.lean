/- The program's and the specification's answers on power, level flight, rates and wakes, walked. -/
import Derived.Test.YtdnodlgebpnfoaaGreatRef2
namespace Go.Proofs.YtdnodlgebpnfoaaGreat
open Go Go.RowKit Go.Shelf Sw
set_option linter.unusedVariables false
set_option linter.unusedSimpArgs false

set_option maxHeartbeats 2000000 in
set_option maxRecDepth 100000 in
theorem rotor_hs1 {Vr : RV} {r : Rot} {A : Air}  {Fr : Nat → Prop} (pc0 : Addr) {w : World} (hc0 : CellsAt w pc0 (machC Vr r A)) (hrr : RotR Fr w Vr r) : Ret Tryz.prog 93 [.pointer (some pc0)] w (fun v W' => ∃ s : SV, v = .slice s.a (([⟨Vr.power, r.power, A.temp, A.height⟩] : List LookV)).length s.c ∧ Sl kLook (fun k => w.heap.size ≤ k) W' s ([⟨Vr.power, r.power, A.temp, A.height⟩] : List LookV)) := by
 refine ret_start (n := 5) Tryz.func93 rfl rfl rfl (fun a hS => ?_)
 have Hc0 : ∀ W, Below w.heap.size w W → CellsAt W pc0 (machC Vr r A) := fun W hb => hc0.at_ hb
 have Hr : ∀ W, Below w.heap.size w W → RotR Fr W Vr r := fun W hb => hrr.move (keep_of hb)
 refine wpIn_seq ?_
 refine wpIn_region_lit ?_
 refine st_v hS rfl rfl (run_assign hS rfl) fun a hS => wl_nil ?_
 refine wpIn_seq ?_
 refine wpIn_region_lit ?_
 refine st_v hS rfl rfl (run_load_ext Tryz.isAgg118 Tryz.sizeOf118 hS rfl rfl (Hc0 _ hS.below)) fun a hS => st_call (mach_power Vr r A (Hr _ hS.below)) Tryz.call94 hS rfl rfl rfl fun v W a hR hB hlt hS => ?_
 subst hR
 refine st_buildSlice (pv := [(0, .agg #[.slice _ _ _, .slice _ _ _, .slice _ _ _, .int .i64 _, .int .i64 _, .int .i64 _, .int .i64 _])]) (fun W => bs120_1_0 _ _ _ _ _ _ _ _ _ _ _ _ _ W) hS rfl rfl rfl fun W a b0 hS => st_v hS rfl rfl (run_assign hS rfl) fun a hS => wl_nil ?_
 refine wpIn_ret ?_
 repeat (first | refine q_ret ?_ | refine q_block_ret ?_)
 refine hS.done (res1 (fn := Tryz.f93) (r1 := .tmp 1) rfl (rv_tmp hS rfl)) ?_
 exact ⟨⟨some ⟨b0, 0, none⟩, 1⟩, rfl, own_new (enc := lookC) (nn := 7) (bb := 104) (hb := by decide) (hl := fun _ => rfl) ([⟨Vr.power, r.power, A.temp, A.height⟩] : List LookV) hS (i := 0) rfl rfl (Nat.le_of_ble_eq_true rfl)⟩


set_option maxHeartbeats 2000000 in
set_option maxRecDepth 100000 in
theorem rotor_Has  (Vr : RV) (r : Rot) (A : Air) {w : World} {Fr : Nat → Prop} (hr : RotR Fr w Vr r)  : Ret Tryz.prog 29 [.agg (rotC Vr r).toArray, .agg (airC A).toArray] w (fun v _ => v = .tuple #[.agg (spanC (if errC r A (onHas r A) = 0 then hasOf r A else ⟨0, 0⟩)).toArray, .int .i64 (errC r A (onHas r A))]) := by
 refine ret_start (n := 22) Tryz.func29 rfl rfl rfl (fun a hS => ?_)
 have Hr : ∀ W, Below w.heap.size w W → RotR Fr W Vr r := fun W hb => hr.move (keep_of hb)
 refine wpIn_seq ?_
 refine wpIn_region_lit ?_
 refine st_box_agg hS rfl rfl rfl fun W a b0 hS => st_box_agg hS rfl rfl rfl fun W a b1 hS => st_alloc_agg Tryz.zeroValue31 hS rfl rfl fun W a b2 hS => st_v hS rfl rfl (run_assign hS rfl) fun a hS => wl_nil ?_
 refine wpIn_seq ?_
 refine wpIn_region_lit ?_
 refine st_v hS rfl rfl (run_load_all (i := 2) Tryz.isAgg27 Tryz.sizeOf27 hS rfl rfl rfl) fun a hS => st_v hS rfl rfl (run_load_all (i := 1) Tryz.isAgg33 Tryz.sizeOf33 hS rfl rfl rfl) fun a hS => st_v hS rfl rfl (run_build (pv := [(0, .agg #[.slice _ _ _, .slice _ _ _, .slice _ _ _, .slice _ _ _, .slice _ _ _, .slice _ _ _, .slice _ _ _, .slice _ _ _, .slice _ _ _, .slice _ _ _, .slice _ _ _, .slice _ _ _, .slice _ _ _, .slice _ _ _, .slice _ _ _, .slice _ _ _, .slice _ _ _, .slice _ _ _, .slice _ _ _, .slice _ _ _, .slice _ _ _, .slice _ _ _, .slice _ _ _, .slice _ _ _, .int .i64 _, .int .i64 _]), (1, .agg #[.int .i64 _, .int .i64 _, .int .i64 _, .int .i64 _, .int .i64 _, .int .i64 _, .int .i64 _, .int .i64 _])]) (fun W => bd118_0_1 _ _ _ _ _ _ _ _ _ _ _ _ _ _ _ _ _ _ _ _ _ _ _ _ _ _ _ _ _ _ _ _ _ _ _ _ _ _ _ _ _ _ _ _ _ _ _ _ _ _ _ _ _ _ _ _ _ _ _ _ _ _ _ _ _ _ _ _ _ _ _ _ _ _ _ _ _ _ _ _ _ _ W) hS rfl) fun a hS => st_alloc_agg Tryz.zeroValue118 hS rfl rfl fun W a b3 hS => st_store (cs' := [.slice Vr.hover.x.a r.hover.X.length Vr.hover.x.c, .slice Vr.hover.y.a r.hover.Y.length Vr.hover.y.c, .slice Vr.hover.v.a r.hover.V.length Vr.hover.v.c, .slice Vr.ground.x.a r.ground.X.length Vr.ground.x.c, .slice Vr.ground.y.a r.ground.Y.length Vr.ground.y.c, .slice Vr.ground.v.a r.ground.V.length Vr.ground.v.c, .slice Vr.level.x.a r.level.X.length Vr.level.x.c, .slice Vr.level.y.a r.level.Y.length Vr.level.y.c, .slice Vr.level.v.a r.level.V.length Vr.level.v.c, .slice Vr.power.x.a r.power.X.length Vr.power.x.c, .slice Vr.power.y.a r.power.Y.length Vr.power.y.c, .slice Vr.power.v.a r.power.V.length Vr.power.v.c, .slice Vr.never.x.a r.never.X.length Vr.never.x.c, .slice Vr.never.y.a r.never.Y.length Vr.never.y.c, .slice Vr.never.v.a r.never.V.length Vr.never.v.c, .slice Vr.low.x.a r.low.X.length Vr.low.x.c, .slice Vr.low.y.a r.low.Y.length Vr.low.y.c, .slice Vr.low.v.a r.low.V.length Vr.low.v.c, .slice Vr.high.x.a r.high.X.length Vr.high.x.c, .slice Vr.high.y.a r.high.Y.length Vr.high.y.c, .slice Vr.high.v.a r.high.V.length Vr.high.v.c, .slice Vr.glide.x.a r.glide.X.length Vr.glide.x.c, .slice Vr.glide.y.a r.glide.Y.length Vr.glide.y.c, .slice Vr.glide.v.a r.glide.V.length Vr.glide.v.c, .int .i64 r.climb, .int .i64 r.burn, .int .i64 A.weight.lo, .int .i64 A.weight.hi, .int .i64 A.temp.lo, .int .i64 A.temp.hi, .int .i64 A.height.lo, .int .i64 A.height.hi, .int .i64 A.wind.lo, .int .i64 A.wind.hi]) (i := 0) Tryz.sizeOf118 hS rfl rfl rfl rfl rfl rfl rfl rfl rfl fun W a hS => wl_nil ?_
 refine wpIn_seq ?_
 refine wpIn_seq ?_
 refine wpIn_region_lit ?_
 refine st_v hS rfl rfl (run_load_all (i := 3) Tryz.isAgg27 Tryz.sizeOf27 hS rfl rfl rfl) fun a hS => st_v hS rfl rfl (run_load_all (i := 2) Tryz.isAgg33 Tryz.sizeOf33 hS rfl rfl rfl) fun a hS => st_v hS rfl rfl (run_makeFunc hS rfl rfl) fun a hS => st_call (rotor_check Vr r A (⟨none, 0⟩ : SV) [] 93 [.pointer (some ⟨b3, 0, none⟩)] ([⟨Vr.power, r.power, A.temp, A.height⟩] : List LookV) (Hr _ hS.below) (sl_nil kSpan (fun _ => True) _) Tryz.call93 (fun W' hb _ => rotor_hs1 _ (hS.cells (i := 0) rfl _ hb) (hr.move (keep_of (hS.below.trans (hb.mono hS.below.size))))) (fun hrok x hx => by
   have hRp := rot_p hrok
   have hr' := Hr _ hS.below
   simp only [List.mem_cons, List.not_mem_nil, or_false] at hx
   subst hx
   exact ⟨hr'.power, hRp.power.1⟩)) Tryz.call77 hS rfl rfl rfl fun v W a hR hB hlt hS => ?_
 rw [show errC r A (([] : List Span).all Span.ok && ([⟨Vr.power, r.power, A.temp, A.height⟩] : List LookV).all fun x => liesT x.t x.p x.q) = errC r A (onHas r A) from errC_congr fun hrok => by
   have hRp := rot_p hrok
   simp [onHas]] at hR
 subst hR
 refine st_v hS rfl rfl (run_assign hS rfl) fun a hS => wl_nil ?_
 refine wpIn_seq ?_
 refine wpIn_region_lit ?_
 refine st_v hS rfl rfl (run_move hS rfl) fun a hS => st_v hS rfl rfl (run_bin hS rfl rfl rfl) fun a hS => wl_nil ?_
 refine st_cond hS rfl (fun hc1 => ?_) (fun hc1 => ?_)
 ·
  try simp only [ty] at hc1
  refine wpIn_seq ?_
  refine wpIn_region_lit ?_
  refine st_v hS rfl rfl (run_build (pv := []) (fun W => bd31_ W) hS rfl) fun a hS => st_v hS rfl rfl (run_move hS rfl) fun a hS => st_store (i := 1) Tryz.sizeOf31 hS rfl rfl rfl rfl rfl rfl rfl rfl rfl fun W a hS => st_v hS rfl rfl (run_assign hS rfl) fun a hS => wl_nil ?_
  refine wpIn_ret ?_
  repeat (first | refine q_ret ?_ | refine q_block_ret ?_)
  refine hS.done (res2 (fn := Tryz.f29) (r1 := .cell 4 31) (r2 := .tmp 5) rfl (rv_agg (i := 1) Tryz.isAgg31 Tryz.sizeOf31 hS rfl rfl rfl) (rv_tmp hS rfl)) ?_
  exact t2s (p := ⟨0, 0⟩) (by rw [if_neg hc1]) rfl
 ·
  try simp only [ty] at hc1
  obtain ⟨hrok, haok, hon⟩ := errC_ok hc1
  obtain ⟨hA1, hA2, hA3, hA4⟩ := (airOk_iff A).1 haok
  have hRp := rot_p hrok
  refine wpIn_skip ?_
  refine wpIn_seq ?_
  refine wpIn_region_lit ?_
  refine st_v hS rfl rfl (run_load_all (i := 0) Tryz.isAgg118 Tryz.sizeOf118 hS rfl rfl rfl) fun a hS => st_call (mach_power Vr r A (Hr _ hS.below)) Tryz.call94 hS rfl rfl rfl fun v W a hR hB hlt hS => ?_
  subst hR
  refine st_call (rotor_bound (⟨Vr.power, r.power, A.temp, A.height⟩ : LookV) ((fun W hC => (Hr W hC).power) _ hS.below) (by exact hRp.power.1) (by exact hA2) (by exact hA3) (by exact hon)) Tryz.call95 hS rfl rfl rfl fun v W a hR hB hlt hS => ?_
  subst hR
  refine st_store (i := 1) Tryz.sizeOf31 hS rfl rfl rfl rfl rfl rfl rfl rfl rfl fun W a hS => st_v hS rfl rfl (run_assign hS rfl) fun a hS => wl_nil ?_
  refine wpIn_ret ?_
  repeat (first | refine q_ret ?_ | refine q_block_ret ?_)
  refine hS.done (res2 (fn := Tryz.f29) (r1 := .cell 4 31) (r2 := .tmp 5) rfl (rv_agg (i := 1) Tryz.isAgg31 Tryz.sizeOf31 hS rfl rfl rfl) (rv_tmp hS rfl)) ?_
  exact t2s (p := hasOf r A) (by rw [if_pos hc1]) hc1.symm


set_option maxHeartbeats 2000000 in
set_option maxRecDepth 100000 in
theorem rotor_cl1 {Vr : RV} {r : Rot} {A : Air} {p : Span} {Fr : Nat → Prop} (pc0 : Addr) (pc1 : Addr) {w : World} (hc0 : CellsAt w pc0 (machC Vr r A)) (hc1 : CellsAt w pc1 (spanC p)) (hrr : RotR Fr w Vr r) : Ret Tryz.prog 243 [.pointer (some pc0), .pointer (some pc1)] w (fun v W' => ∃ s : SV, v = .slice s.a (([⟨Vr.level, r.level, p, A.weight⟩] : List LookV)).length s.c ∧ Sl kLook (fun k => w.heap.size ≤ k) W' s ([⟨Vr.level, r.level, p, A.weight⟩] : List LookV)) := by
 refine ret_start (n := 7) Tryz.func243 rfl rfl rfl (fun a hS => ?_)
 have Hc0 : ∀ W, Below w.heap.size w W → CellsAt W pc0 (machC Vr r A) := fun W hb => hc0.at_ hb
 have Hc1 : ∀ W, Below w.heap.size w W → CellsAt W pc1 (spanC p) := fun W hb => hc1.at_ hb
 have Hr : ∀ W, Below w.heap.size w W → RotR Fr W Vr r := fun W hb => hrr.move (keep_of hb)
 refine wpIn_seq ?_
 refine wpIn_region_lit ?_
 refine st_v hS rfl rfl (run_assign hS rfl) fun a hS => wl_nil ?_
 refine wpIn_seq ?_
 refine wpIn_region_lit ?_
 refine st_v hS rfl rfl (run_load_ext Tryz.isAgg118 Tryz.sizeOf118 hS rfl rfl (Hc0 _ hS.below)) fun a hS => st_v hS rfl rfl (run_load_ext Tryz.isAgg31 Tryz.sizeOf31 hS rfl rfl (Hc1 _ hS.below)) fun a hS => st_call (mach_level Vr r A p (Hr _ hS.below)) Tryz.call115 hS rfl rfl rfl fun v W a hR hB hlt hS => ?_
 subst hR
 refine st_buildSlice (pv := [(0, .agg #[.slice _ _ _, .slice _ _ _, .slice _ _ _, .int .i64 _, .int .i64 _, .int .i64 _, .int .i64 _])]) (fun W => bs120_1_0 _ _ _ _ _ _ _ _ _ _ _ _ _ W) hS rfl rfl rfl fun W a b0 hS => st_v hS rfl rfl (run_assign hS rfl) fun a hS => wl_nil ?_
 refine wpIn_ret ?_
 repeat (first | refine q_ret ?_ | refine q_block_ret ?_)
 refine hS.done (res1 (fn := Tryz.f243) (r1 := .tmp 2) rfl (rv_tmp hS rfl)) ?_
 exact ⟨⟨some ⟨b0, 0, none⟩, 1⟩, rfl, own_new (enc := lookC) (nn := 7) (bb := 104) (hb := by decide) (hl := fun _ => rfl) ([⟨Vr.level, r.level, p, A.weight⟩] : List LookV) hS (i := 0) rfl rfl (Nat.le_of_ble_eq_true rfl)⟩


set_option maxHeartbeats 2000000 in
set_option maxRecDepth 100000 in
theorem rotor_checkLevel  (Vr : RV) (r : Rot) (A : Air) (p : Span) {w : World} {Fr : Nat → Prop} (hr : RotR Fr w Vr r)  : Ret Tryz.prog 214 [.agg (machC Vr r A).toArray, .agg (spanC p).toArray] w (fun v _ => v = .int .i64 (errC r A (onLevel r A p))) := by
 refine ret_start (n := 13) Tryz.func214 rfl rfl rfl (fun a hS => ?_)
 have Hr : ∀ W, Below w.heap.size w W → RotR Fr W Vr r := fun W hb => hr.move (keep_of hb)
 refine wpIn_seq ?_
 refine wpIn_region_lit ?_
 refine st_box_agg hS rfl rfl rfl fun W a b0 hS => st_box_agg hS rfl rfl rfl fun W a b1 hS => st_v hS rfl rfl (run_assign hS rfl) fun a hS => wl_nil ?_
 refine wpIn_seq ?_
 refine wpIn_region_lit ?_
 refine st_v hS rfl rfl (run_fieldAddr fa118_0 hS rfl) fun a hS => st_v hS rfl rfl (run_load_agg (i := 1) (vs := [_, _, _, _, _, _, _, _, _, _, _, _, _, _, _, _, _, _, _, _, _, _, _, _, _, _]) Tryz.isAgg27 Tryz.sizeOf27 hS rfl rfl rfl ⟨rfl, rfl, rfl, rfl, rfl, rfl, rfl, rfl, rfl, rfl, rfl, rfl, rfl, rfl, rfl, rfl, rfl, rfl, rfl, rfl, rfl, rfl, rfl, rfl, rfl, rfl, trivial⟩) fun a hS => st_v hS rfl rfl (run_fieldAddr fa118_1 hS rfl) fun a hS => st_v hS rfl rfl (run_load_agg (i := 1) (vs := [_, _, _, _, _, _, _, _]) Tryz.isAgg33 Tryz.sizeOf33 hS rfl rfl rfl ⟨rfl, rfl, rfl, rfl, rfl, rfl, rfl, rfl, trivial⟩) fun a hS => st_v hS rfl rfl (run_load_all (i := 0) Tryz.isAgg31 Tryz.sizeOf31 hS rfl rfl rfl) fun a hS => st_buildSlice (pv := [(0, .agg #[.int .i64 _, .int .i64 _])]) (fun W => bs61_1_0 _ _ W) hS rfl rfl rfl fun W a b2 hS => st_v hS rfl rfl (run_makeFunc hS rfl rfl) fun a hS => st_call (rotor_check Vr r A (⟨some ⟨b2, 0, none⟩, 1⟩ : SV) [p] 243 [.pointer (some ⟨b0, 0, none⟩), .pointer (some ⟨b1, 0, none⟩)] ([⟨Vr.level, r.level, p, A.weight⟩] : List LookV) (Hr _ hS.below) (own_sl_of (dk := kSpan) (enc := spanC) (xs := [p]) (fun _ _ _ => rfl) hS (i := 0) rfl (Nat.le_of_ble_eq_true rfl)) Tryz.call243 (fun W' hb _ => rotor_cl1 _ _ (hS.cells (i := 2) rfl _ hb) (hS.cells (i := 1) rfl _ hb) (hr.move (keep_of (hS.below.trans (hb.mono hS.below.size))))) (fun hrok x hx => by
   have hRp := rot_p hrok
   have hr' := Hr _ hS.below
   simp only [List.mem_cons, List.not_mem_nil, or_false] at hx
   subst hx
   exact ⟨hr'.level, hRp.level.1⟩)) Tryz.call77 hS rfl rfl rfl fun v W a hR hB hlt hS => ?_
 rw [show errC r A (([p] : List Span).all Span.ok && ([⟨Vr.level, r.level, p, A.weight⟩] : List LookV).all fun x => liesT x.t x.p x.q) = errC r A (onLevel r A p) from errC_congr fun hrok => by
   have hRp := rot_p hrok
   simp [onLevel]] at hR
 subst hR
 refine st_v hS rfl rfl (run_assign hS rfl) fun a hS => wl_nil ?_
 refine wpIn_ret ?_
 repeat (first | refine q_ret ?_ | refine q_block_ret ?_)
 refine hS.done (res1 (fn := Tryz.f214) (r1 := .tmp 4) rfl (rv_tmp hS rfl)) ?_
 rfl


set_option maxHeartbeats 2000000 in
set_option maxRecDepth 100000 in
theorem rotor_Level  (Vr : RV) (r : Rot) (A : Air) (p : Span) {w : World} {Fr : Nat → Prop} (hr : RotR Fr w Vr r)  : Ret Tryz.prog 169 [.agg (rotC Vr r).toArray, .agg (airC A).toArray, .agg (spanC p).toArray] w (fun v _ => v = .tuple #[.agg (spanC (if errC r A (onLevel r A p) = 0 then levelOf r A p else ⟨0, 0⟩)).toArray, .int .i64 (errC r A (onLevel r A p))]) := by
 refine ret_start (n := 24) Tryz.func169 rfl rfl rfl (fun a hS => ?_)
 have Hr : ∀ W, Below w.heap.size w W → RotR Fr W Vr r := fun W hb => hr.move (keep_of hb)
 refine wpIn_seq ?_
 refine wpIn_region_lit ?_
 refine st_box_agg hS rfl rfl rfl fun W a b0 hS => st_box_agg hS rfl rfl rfl fun W a b1 hS => st_box_agg hS rfl rfl rfl fun W a b2 hS => st_alloc_agg Tryz.zeroValue31 hS rfl rfl fun W a b3 hS => st_v hS rfl rfl (run_assign hS rfl) fun a hS => wl_nil ?_
 refine wpIn_seq ?_
 refine wpIn_region_lit ?_
 refine st_v hS rfl rfl (run_load_all (i := 3) Tryz.isAgg27 Tryz.sizeOf27 hS rfl rfl rfl) fun a hS => st_v hS rfl rfl (run_load_all (i := 2) Tryz.isAgg33 Tryz.sizeOf33 hS rfl rfl rfl) fun a hS => st_v hS rfl rfl (run_build (pv := [(0, .agg #[.slice _ _ _, .slice _ _ _, .slice _ _ _, .slice _ _ _, .slice _ _ _, .slice _ _ _, .slice _ _ _, .slice _ _ _, .slice _ _ _, .slice _ _ _, .slice _ _ _, .slice _ _ _, .slice _ _ _, .slice _ _ _, .slice _ _ _, .slice _ _ _, .slice _ _ _, .slice _ _ _, .slice _ _ _, .slice _ _ _, .slice _ _ _, .slice _ _ _, .slice _ _ _, .slice _ _ _, .int .i64 _, .int .i64 _]), (1, .agg #[.int .i64 _, .int .i64 _, .int .i64 _, .int .i64 _, .int .i64 _, .int .i64 _, .int .i64 _, .int .i64 _])]) (fun W => bd118_0_1 _ _ _ _ _ _ _ _ _ _ _ _ _ _ _ _ _ _ _ _ _ _ _ _ _ _ _ _ _ _ _ _ _ _ _ _ _ _ _ _ _ _ _ _ _ _ _ _ _ _ _ _ _ _ _ _ _ _ _ _ _ _ _ _ _ _ _ _ _ _ _ _ _ _ _ _ _ _ _ _ _ _ W) hS rfl) fun a hS => st_alloc_agg Tryz.zeroValue118 hS rfl rfl fun W a b4 hS => st_store (cs' := [.slice Vr.hover.x.a r.hover.X.length Vr.hover.x.c, .slice Vr.hover.y.a r.hover.Y.length Vr.hover.y.c, .slice Vr.hover.v.a r.hover.V.length Vr.hover.v.c, .slice Vr.ground.x.a r.ground.X.length Vr.ground.x.c, .slice Vr.ground.y.a r.ground.Y.length Vr.ground.y.c, .slice Vr.ground.v.a r.ground.V.length Vr.ground.v.c, .slice Vr.level.x.a r.level.X.length Vr.level.x.c, .slice Vr.level.y.a r.level.Y.length Vr.level.y.c, .slice Vr.level.v.a r.level.V.length Vr.level.v.c, .slice Vr.power.x.a r.power.X.length Vr.power.x.c, .slice Vr.power.y.a r.power.Y.length Vr.power.y.c, .slice Vr.power.v.a r.power.V.length Vr.power.v.c, .slice Vr.never.x.a r.never.X.length Vr.never.x.c, .slice Vr.never.y.a r.never.Y.length Vr.never.y.c, .slice Vr.never.v.a r.never.V.length Vr.never.v.c, .slice Vr.low.x.a r.low.X.length Vr.low.x.c, .slice Vr.low.y.a r.low.Y.length Vr.low.y.c, .slice Vr.low.v.a r.low.V.length Vr.low.v.c, .slice Vr.high.x.a r.high.X.length Vr.high.x.c, .slice Vr.high.y.a r.high.Y.length Vr.high.y.c, .slice Vr.high.v.a r.high.V.length Vr.high.v.c, .slice Vr.glide.x.a r.glide.X.length Vr.glide.x.c, .slice Vr.glide.y.a r.glide.Y.length Vr.glide.y.c, .slice Vr.glide.v.a r.glide.V.length Vr.glide.v.c, .int .i64 r.climb, .int .i64 r.burn, .int .i64 A.weight.lo, .int .i64 A.weight.hi, .int .i64 A.temp.lo, .int .i64 A.temp.hi, .int .i64 A.height.lo, .int .i64 A.height.hi, .int .i64 A.wind.lo, .int .i64 A.wind.hi]) (i := 0) Tryz.sizeOf118 hS rfl rfl rfl rfl rfl rfl rfl rfl rfl fun W a hS => wl_nil ?_
 refine wpIn_seq ?_
 refine wpIn_seq ?_
 refine wpIn_region_lit ?_
 refine st_v hS rfl rfl (run_load_all (i := 0) Tryz.isAgg118 Tryz.sizeOf118 hS rfl rfl rfl) fun a hS => st_v hS rfl rfl (run_load_all (i := 2) Tryz.isAgg31 Tryz.sizeOf31 hS rfl rfl rfl) fun a hS => st_call (rotor_checkLevel Vr r A p (Hr _ hS.below)) Tryz.call214 hS rfl rfl rfl fun v W a hR hB hlt hS => ?_
 subst hR
 refine st_v hS rfl rfl (run_assign hS rfl) fun a hS => wl_nil ?_
 refine wpIn_seq ?_
 refine wpIn_region_lit ?_
 refine st_v hS rfl rfl (run_move hS rfl) fun a hS => st_v hS rfl rfl (run_bin hS rfl rfl rfl) fun a hS => wl_nil ?_
 refine st_cond hS rfl (fun hc1 => ?_) (fun hc1 => ?_)
 ·
  try simp only [ty] at hc1
  refine wpIn_seq ?_
  refine wpIn_region_lit ?_
  refine st_v hS rfl rfl (run_build (pv := []) (fun W => bd31_ W) hS rfl) fun a hS => st_v hS rfl rfl (run_move hS rfl) fun a hS => st_store (i := 1) Tryz.sizeOf31 hS rfl rfl rfl rfl rfl rfl rfl rfl rfl fun W a hS => st_v hS rfl rfl (run_assign hS rfl) fun a hS => wl_nil ?_
  refine wpIn_ret ?_
  repeat (first | refine q_ret ?_ | refine q_block_ret ?_)
  refine hS.done (res2 (fn := Tryz.f169) (r1 := .cell 6 31) (r2 := .tmp 7) rfl (rv_agg (i := 1) Tryz.isAgg31 Tryz.sizeOf31 hS rfl rfl rfl) (rv_tmp hS rfl)) ?_
  exact t2s (p := ⟨0, 0⟩) (by rw [if_neg hc1]) rfl
 ·
  try simp only [ty] at hc1
  obtain ⟨hrok, haok, hon⟩ := errC_ok hc1
  obtain ⟨hA1, hA2, hA3, hA4⟩ := (airOk_iff A).1 haok
  have hRp := rot_p hrok
  have hon2 := hon
  simp only [onLevel, Bool.and_eq_true] at hon2
  refine wpIn_skip ?_
  refine wpIn_seq ?_
  refine wpIn_region_lit ?_
  refine st_v hS rfl rfl (run_load_all (i := 0) Tryz.isAgg118 Tryz.sizeOf118 hS rfl rfl rfl) fun a hS => st_v hS rfl rfl (run_load_all (i := 2) Tryz.isAgg31 Tryz.sizeOf31 hS rfl rfl rfl) fun a hS => st_call (mach_level Vr r A p (Hr _ hS.below)) Tryz.call115 hS rfl rfl rfl fun v W a hR hB hlt hS => ?_
  subst hR
  refine st_call (rotor_bound (⟨Vr.level, r.level, p, A.weight⟩ : LookV) ((fun W hC => (Hr W hC).level) _ hS.below) (by exact hRp.level.1) (by exact hon2.1) (by exact hA1) (by exact hon2.2)) Tryz.call95 hS rfl rfl rfl fun v W a hR hB hlt hS => ?_
  subst hR
  refine st_store (i := 1) Tryz.sizeOf31 hS rfl rfl rfl rfl rfl rfl rfl rfl rfl fun W a hS => st_v hS rfl rfl (run_assign hS rfl) fun a hS => wl_nil ?_
  refine wpIn_ret ?_
  repeat (first | refine q_ret ?_ | refine q_block_ret ?_)
  refine hS.done (res2 (fn := Tryz.f169) (r1 := .cell 6 31) (r2 := .tmp 7) rfl (rv_agg (i := 1) Tryz.isAgg31 Tryz.sizeOf31 hS rfl rfl rfl) (rv_tmp hS rfl)) ?_
  exact t2s (p := levelOf r A p) (by rw [if_pos hc1]) hc1.symm


set_option maxHeartbeats 2000000 in
set_option maxRecDepth 100000 in
theorem ref01_Part  (p : Span) {n : Int} {d : Int} {w : World}   : Ret Tryz.prog 195 [.agg (spanC p).toArray, .int .i64 n, .int .i64 d] w (fun v _ => v = .tuple #[.agg (spanC (if partE p n d = 0 then partOf p n d else ⟨0, 0⟩)).toArray, .int .i64 (partE p n d)]) := by
 refine ret_start (n := 37) Tryz.func195 rfl rfl rfl (fun a hS => ?_)
 refine wpIn_seq ?_
 refine wpIn_region_lit ?_
 refine st_box_agg hS rfl rfl rfl fun W a b0 hS => st_alloc_agg Tryz.zeroValue31 hS rfl rfl fun W a b1 hS => st_v hS rfl rfl (run_assign hS rfl) fun a hS => wl_nil ?_
 refine wpIn_seq ?_
 refine wpIn_seq ?_
 refine wpIn_region_lit ?_
 refine st_v hS rfl rfl (run_load_all (i := 1) Tryz.isAgg31 Tryz.sizeOf31 hS rfl rfl rfl) fun a hS => st_call (ref01_Valid p) Tryz.call184 hS rfl rfl rfl fun v W a hR hB hlt hS => ?_
 subst hR
 refine st_v hS rfl rfl (run_not hS rfl) fun a hS => wl_nil ?_
 refine st_cond hS rfl (fun hc1 => ?_) (fun hc1 => ?_)
 ·
  try simp only [ty] at hc1
  refine wpIn_seq ?_
  refine wpIn_region_lit ?_
  refine st_v hS rfl rfl (run_build (pv := []) (fun W => bd31_ W) hS rfl) fun a hS => st_store (i := 0) Tryz.sizeOf31 hS rfl rfl rfl rfl rfl rfl rfl rfl rfl fun W a hS => st_v hS rfl rfl (run_assign hS rfl) fun a hS => wl_nil ?_
  refine wpIn_ret ?_
  repeat (first | refine q_ret ?_ | refine q_block_ret ?_)
  refine hS.done (res2 (fn := Tryz.f195) (r1 := .cell 6 31) (r2 := .tmp 7) rfl (rv_agg (i := 0) Tryz.isAgg31 Tryz.sizeOf31 hS rfl rfl rfl) (rv_tmp hS rfl)) ?_
  have h : p.ok = false := by simpa using hc1
  exact t2s (p := ⟨0, 0⟩) (by simp [partE, h]) (by simp [partE, h])
 ·
  try simp only [ty] at hc1
  have hpok : p.ok = true := by simpa using hc1
  have hp1 := (Span.ok_iff p).1 hpok
  refine wpIn_skip ?_
  refine wpIn_seq ?_
  refine wpIn_seq ?_
  refine wpIn_region_lit ?_
  refine st_v hS rfl rfl (run_move hS rfl) fun a hS => st_call (ref01_From) Tryz.call222 hS rfl rfl rfl fun v W a hR hB hlt hS => ?_
  subst hR
  refine st_v hS rfl rfl (run_not hS rfl) fun a hS => st_v hS rfl rfl (run_move hS rfl) fun a hS => ?_
  refine st_split (d := 15) hS rfl (fun hc2 hS => ?_) (fun hc2 hS => ?_)
  ·
   try simp only [ty] at hc2
   refine st_skip hS (hS.unwanted rfl rfl rfl rfl) rfl fun a hS => st_skip hS (hS.unwanted rfl rfl rfl rfl) rfl fun a hS => st_skip hS (hS.unwanted rfl rfl rfl rfl) rfl fun a hS => st_v hS rfl rfl (run_pick_t hS rfl rfl) fun a hS => wl_nil ?_
   refine st_cond_t hS rfl ?_
   refine wpIn_seq ?_
   refine wpIn_region_lit ?_
   refine st_v hS rfl rfl (run_build (pv := []) (fun W => bd31_ W) hS rfl) fun a hS => st_store (i := 0) Tryz.sizeOf31 hS rfl rfl rfl rfl rfl rfl rfl rfl rfl fun W a hS => st_v hS rfl rfl (run_assign hS rfl) fun a hS => wl_nil ?_
   refine wpIn_ret ?_
   repeat (first | refine q_ret ?_ | refine q_block_ret ?_)
   refine hS.done (res2 (fn := Tryz.f195) (r1 := .cell 6 31) (r2 := .tmp 7) rfl (rv_agg (i := 0) Tryz.isAgg31 Tryz.sizeOf31 hS rfl rfl rfl) (rv_tmp hS rfl)) ?_
   have hw : (within n 0 1000 && within d 1 1000) = false := by simp_all
   exact t2s (p := ⟨0, 0⟩) (by simp [partE, hpok, hw]) (by simp [partE, hpok, hw])
  ·
   try simp only [ty] at hc2
   
   refine st_v hS (hS.wanted rfl rfl rfl) rfl (run_move hS rfl) fun a hS => st_call (ref01_From) Tryz.call222 hS (hS.wanted rfl rfl rfl) rfl rfl fun v W a hR hB hlt hS => ?_
   subst hR
   refine st_v hS (hS.wanted rfl rfl rfl) rfl (run_not hS rfl) fun a hS => st_v hS rfl rfl (run_pick_f hS rfl rfl) fun a hS => wl_nil ?_
   refine st_cond hS rfl (fun hc3 => ?_) (fun hc3 => ?_)
   ·
    try simp only [ty] at hc3
    refine wpIn_seq ?_
    refine wpIn_region_lit ?_
    refine st_v hS rfl rfl (run_build (pv := []) (fun W => bd31_ W) hS rfl) fun a hS => st_store (i := 0) Tryz.sizeOf31 hS rfl rfl rfl rfl rfl rfl rfl rfl rfl fun W a hS => st_v hS rfl rfl (run_assign hS rfl) fun a hS => wl_nil ?_
    refine wpIn_ret ?_
    repeat (first | refine q_ret ?_ | refine q_block_ret ?_)
    refine hS.done (res2 (fn := Tryz.f195) (r1 := .cell 6 31) (r2 := .tmp 7) rfl (rv_agg (i := 0) Tryz.isAgg31 Tryz.sizeOf31 hS rfl rfl rfl) (rv_tmp hS rfl)) ?_
    have hw : (within n 0 1000 && within d 1 1000) = false := by simp_all
    exact t2s (p := ⟨0, 0⟩) (by simp [partE, hpok, hw]) (by simp [partE, hpok, hw])
   ·
    try simp only [ty] at hc3
    have hn : (0 ≤ n ∧ n ≤ 1000) ∧ (1 ≤ d ∧ d ≤ 1000) := by
      simp only [within, Bool.and_eq_true, decide_eq_true_eq] at *; omega
    have hw : (within n 0 1000 && within d 1 1000) = true := by simp [hc1, hc2, hc3]
    have p1 := mul_bd (a := p.lo) (b := n) (A := 1000000) (B := 1000) (by omega) (by omega); have p2 := mul_bd (a := p.hi) (b := n) (A := 1000000) (B := 1000) (by omega) (by omega)
    refine wpIn_skip ?_
    refine wpIn_seq ?_
    have hlt0 := fun B hB => hS.lt (b := B) hB
    refine st_mix (k := 16) (by kernel_rfl) (by kernel_rfl) hS rfl rfl ?_
    refine mx_v (fun a W hS hB => run_fieldAddr fa31_0 hS rfl) <| mx_v (fun a W hS hB => run_load_one (i := 1) Tryz.isAgg3 hS rfl rfl rfl) <| mx_v (fun a W hS hB => run_move hS rfl) <| mx_v (fun a W hS hB => run_mul (t := p.lo * n) hS rfl rfl (rfl) (by omega)) <| mx_v (fun a W hS hB => run_move hS rfl) <| mx_call Tryz.call238 rfl (fun a W hS hB => ref01_floor (by omega) (by omega) (by omega)) <| mx_v (fun a W hS hB => run_fieldAddr fa31_1 hS rfl) <| mx_v (fun a W hS hB => run_load_one (i := 1) Tryz.isAgg3 hS rfl rfl rfl) <| mx_v (fun a W hS hB => run_move hS rfl) <| mx_v (fun a W hS hB => run_mul (t := p.hi * n) hS rfl rfl (rfl) (by omega)) <| mx_v (fun a W hS hB => run_move hS rfl) <| mx_call Tryz.call239 rfl (fun a W hS hB => ref01_ceil (by omega) (by omega) (by omega)) <| mx_v (fun a W hS hB => run_build (pv := [(0, .int .i64 _), (1, .int .i64 _)]) (fun W => bd31_0_1 _ _ W) hS rfl) <| mx_call Tryz.call237 rfl (fun a W hS hB => ref01_made (⟨fl (p.lo * n) d, ce (p.hi * n) d⟩ : Span)) <| mx_v (fun a W hS hB => run_extract hS rfl rfl) <| mx_v (fun a W hS hB => run_extract hS rfl rfl) <| ?_
    refine mx_end fun a W bs us hS hB hL => ?_
    dsimp only [kall, ball, List.cons_append, List.nil_append] at hS
    refine st_store (i := 0) Tryz.sizeOf31 hS rfl rfl rfl rfl rfl rfl rfl rfl rfl fun W a hS => st_v hS rfl rfl (run_assign hS rfl) fun a hS => wl_nil ?_
    have hS := hS.sub (κ' := [(0, _), (1, _), (2, _), (3, _), (6, _), (7, _)]) (Sub.cons rfl (Sub.cons rfl (Sub.cons rfl (Sub.cons rfl (Sub.cons rfl (Sub.cons rfl Sub.nil))))))
    refine wpIn_ret ?_
    repeat (first | refine q_ret ?_ | refine q_block_ret ?_)
    refine hS.done (res2 (fn := Tryz.f195) (r1 := .cell 6 31) (r2 := .tmp 7) rfl (rv_agg (i := 0) Tryz.isAgg31 Tryz.sizeOf31 hS rfl rfl rfl) (rv_tmp hS rfl)) ?_
    exact t2s (p := (if (partOf p n d).ok then partOf p n d else ⟨0, 0⟩)) (e := if (partOf p n d).ok then 0 else 2) (by simp only [partE, hpok, hw, if_true]; cases (partOf p n d).ok <;> simp) (by simp only [partE, hpok, hw, if_true])


set_option maxHeartbeats 2000000 in
set_option maxRecDepth 100000 in
theorem ref02_Level  (Vr : RV) (r : Rot) (A : Air) (p : Span) {w : World} {Fr : Nat → Prop} (hr : RotR Fr w Vr r)  : Ret Tryz.prog 181 [.agg (rotC Vr r).toArray, .agg (airC A).toArray, .agg (spanC p).toArray] w (fun v _ => v = .tuple #[.agg (spanC (if errC r A (onLevel r A p) = 0 then levelOf r A p else ⟨0, 0⟩)).toArray, .int .i64 (errC r A (onLevel r A p))]) := by
 refine ret_start (n := 30) Tryz.func181 rfl rfl rfl (fun a hS => ?_)
 have Hr : ∀ W, Below w.heap.size w W → RotR Fr W Vr r := fun W hb => hr.move (keep_of hb)
 refine wpIn_seq ?_
 refine wpIn_region_lit ?_
 refine st_box_agg hS rfl rfl rfl fun W a b0 hS => st_box_agg hS rfl rfl rfl fun W a b1 hS => st_box_agg hS rfl rfl rfl fun W a b2 hS => st_alloc_agg Tryz.zeroValue31 hS rfl rfl fun W a b3 hS => st_v hS rfl rfl (run_assign hS rfl) fun a hS => wl_nil ?_
 refine wpIn_seq ?_
 refine wpIn_region_lit ?_
 refine st_v hS rfl rfl (run_load_all (i := 3) Tryz.isAgg27 Tryz.sizeOf27 hS rfl rfl rfl) fun a hS => st_v hS rfl rfl (run_load_all (i := 2) Tryz.isAgg33 Tryz.sizeOf33 hS rfl rfl rfl) fun a hS => st_call (ref02_CheckAir Vr r A (Hr _ hS.below)) Tryz.call160 hS rfl rfl rfl fun v W a hR hB hlt hS => ?_
 subst hR
 refine st_v hS rfl rfl (run_assign hS rfl) fun a hS => wl_nil ?_
 refine wpIn_seq ?_
 refine wpIn_seq ?_
 refine wpIn_region_lit ?_
 refine st_v hS rfl rfl (run_move hS rfl) fun a hS => st_v hS rfl rfl (run_bin hS rfl rfl rfl) fun a hS => wl_nil ?_
 refine st_cond hS rfl (fun hc1 => ?_) (fun hc1 => ?_)
 ·
  try simp only [ty] at hc1
  refine wpIn_seq ?_
  refine wpIn_region_lit ?_
  refine st_v hS rfl rfl (run_build (pv := []) (fun W => bd31_ W) hS rfl) fun a hS => st_v hS rfl rfl (run_move hS rfl) fun a hS => st_store (i := 0) Tryz.sizeOf31 hS rfl rfl rfl rfl rfl rfl rfl rfl rfl fun W a hS => st_v hS rfl rfl (run_assign hS rfl) fun a hS => wl_nil ?_
  refine wpIn_ret ?_
  repeat (first | refine q_ret ?_ | refine q_block_ret ?_)
  refine hS.done (res2 (fn := Tryz.f181) (r1 := .cell 6 31) (r2 := .tmp 7) rfl (rv_agg (i := 0) Tryz.isAgg31 Tryz.sizeOf31 hS rfl rfl rfl) (rv_tmp hS rfl)) ?_
  have hE : errC r A (onLevel r A p) = errC r A true := errC_t hc1
  exact t2s (p := ⟨0, 0⟩) (by rw [hE, if_neg hc1]) hE.symm
 ·
  try simp only [ty] at hc1
  obtain ⟨hrok, haok, _⟩ := errC_ok hc1
  obtain ⟨hA1, hA2, hA3, hA4⟩ := (airOk_iff A).1 haok
  have hRp := rot_p hrok
  refine wpIn_skip ?_
  refine wpIn_seq ?_
  refine wpIn_seq ?_
  refine wpIn_region_lit ?_
  refine st_v hS rfl rfl (run_fieldAddr fa27_2 hS rfl) fun a hS => st_v hS rfl rfl (run_load_agg (i := 3) (vs := [_, _, _]) Tryz.isAgg25 Tryz.sizeOf25 hS rfl rfl rfl ⟨rfl, rfl, rfl, trivial⟩) fun a hS => st_v hS rfl rfl (run_load_all (i := 1) Tryz.isAgg31 Tryz.sizeOf31 hS rfl rfl rfl) fun a hS => st_v hS rfl rfl (run_fieldAddr fa33_0 hS rfl) fun a hS => st_v hS rfl rfl (run_load_agg (i := 2) (vs := [_, _]) Tryz.isAgg31 Tryz.sizeOf31 hS rfl rfl rfl ⟨rfl, rfl, trivial⟩) fun a hS => st_call (ref02_lies Vr.level r.level p A.weight ((fun W hC => (Hr W hC).level) _ hS.below) (by exact hRp.level.1)) Tryz.call112 hS rfl rfl rfl fun v W a hR hB hlt hS => ?_
  subst hR
  refine st_v hS rfl rfl (run_not hS rfl) fun a hS => wl_nil ?_
  refine st_cond hS rfl (fun hc2 => ?_) (fun hc2 => ?_)
  ·
   try simp only [ty] at hc2
   refine wpIn_seq ?_
   refine wpIn_region_lit ?_
   refine st_v hS rfl rfl (run_build (pv := []) (fun W => bd31_ W) hS rfl) fun a hS => st_store (i := 0) Tryz.sizeOf31 hS rfl rfl rfl rfl rfl rfl rfl rfl rfl fun W a hS => st_v hS rfl rfl (run_assign hS rfl) fun a hS => wl_nil ?_
   refine wpIn_ret ?_
   repeat (first | refine q_ret ?_ | refine q_block_ret ?_)
   refine hS.done (res2 (fn := Tryz.f181) (r1 := .cell 6 31) (r2 := .tmp 7) rfl (rv_agg (i := 0) Tryz.isAgg31 Tryz.sizeOf31 hS rfl rfl rfl) (rv_tmp hS rfl)) ?_
   have hf : onLevel r A p = false := by
     revert hc2
     unfold onLevel
     cases p.ok <;> cases liesT r.level p A.weight <;> simp [hA1]
   have hE : errC r A (onLevel r A p) = 1 := errC_tf hrok haok hf
   exact t2s (p := ⟨0, 0⟩) (by rw [hE]; rfl) hE.symm
  ·
   try simp only [ty] at hc2
   have ht : onLevel r A p = true := by
     revert hc2
     unfold onLevel
     cases p.ok <;> cases liesT r.level p A.weight <;> simp [hA1]
   have hon2 := ht
   simp only [onLevel, Bool.and_eq_true] at hon2
   refine wpIn_skip ?_
   refine wpIn_seq ?_
   refine wpIn_region_lit ?_
   refine st_v hS rfl rfl (run_fieldAddr fa27_2 hS rfl) fun a hS => st_v hS rfl rfl (run_load_agg (i := 3) (vs := [_, _, _]) Tryz.isAgg25 Tryz.sizeOf25 hS rfl rfl rfl ⟨rfl, rfl, rfl, trivial⟩) fun a hS => st_v hS rfl rfl (run_load_all (i := 1) Tryz.isAgg31 Tryz.sizeOf31 hS rfl rfl rfl) fun a hS => st_v hS rfl rfl (run_fieldAddr fa33_0 hS rfl) fun a hS => st_v hS rfl rfl (run_load_agg (i := 2) (vs := [_, _]) Tryz.isAgg31 Tryz.sizeOf31 hS rfl rfl rfl ⟨rfl, rfl, trivial⟩) fun a hS => st_call (ref02_bound Vr.level r.level p A.weight ((fun W hC => (Hr W hC).level) _ hS.below) (by exact hRp.level.1) (by exact hon2.1) (by exact hA1) (by exact hon2.2)) Tryz.call113 hS rfl rfl rfl fun v W a hR hB hlt hS => ?_
   subst hR
   refine st_store (i := 0) Tryz.sizeOf31 hS rfl rfl rfl rfl rfl rfl rfl rfl rfl fun W a hS => st_v hS rfl rfl (run_assign hS rfl) fun a hS => wl_nil ?_
   refine wpIn_ret ?_
   repeat (first | refine q_ret ?_ | refine q_block_ret ?_)
   refine hS.done (res2 (fn := Tryz.f181) (r1 := .cell 6 31) (r2 := .tmp 7) rfl (rv_agg (i := 0) Tryz.isAgg31 Tryz.sizeOf31 hS rfl rfl rfl) (rv_tmp hS rfl)) ?_
   have hE : errC r A (onLevel r A p) = 0 := errC_tt hrok haok ht
   exact t2s (p := levelOf r A p) (by rw [hE]; rfl) hE.symm


set_option maxHeartbeats 2000000 in
set_option maxRecDepth 100000 in
theorem mach_wake  (Vr : RV) (r : Rot) (A : Air) (p : Span) (q : Span) {w : World} {Fr : Nat → Prop} (hr : RotR Fr w Vr r) (hrok : rotOk r = true) (haok : airOk A = true) (hon : onRing r A p = true) : Ret Tryz.prog 84 [.agg (machC Vr r A).toArray, .agg (spanC p).toArray, .agg (spanC q).toArray] w (fun v _ => v = .bool (wakeOf r A p q)) := by
 refine ret_start (n := 34) Tryz.func84 rfl rfl rfl (fun a hS => ?_)
 have Hr : ∀ W, Below w.heap.size w W → RotR Fr W Vr r := fun W hb => hr.move (keep_of hb)
 have hRp := rot_p hrok
 obtain ⟨hA1, hA2, hA3, hA4⟩ := (airOk_iff A).1 haok
 have hon2 := hon
 simp only [onRing, Bool.and_eq_true] at hon2
 have honh : liesT r.high p A.weight = true := by rw [ring_same hRp]; exact hon2.2
 refine wpIn_seq ?_
 refine wpIn_region_lit ?_
 refine st_box_agg hS rfl rfl rfl fun W a b0 hS => st_box_agg hS rfl rfl rfl fun W a b1 hS => st_box_agg hS rfl rfl rfl fun W a b2 hS => st_v hS rfl rfl (run_assign hS rfl) fun a hS => wl_nil ?_
 refine wpIn_seq ?_
 refine wpIn_region_lit ?_
 refine st_v hS rfl rfl (run_load_all (i := 2) Tryz.isAgg118 Tryz.sizeOf118 hS rfl rfl rfl) fun a hS => st_v hS rfl rfl (run_load_all (i := 1) Tryz.isAgg31 Tryz.sizeOf31 hS rfl rfl rfl) fun a hS => st_call (mach_ring Vr r A p (Hr _ hS.below)) Tryz.call79 hS rfl rfl rfl fun v W a hR hB hlt hS => ?_
 subst hR
 refine st_call (rotor_bound (⟨Vr.low, r.low, p, A.weight⟩ : LookV) ((fun W hC => (Hr W hC).low) _ hS.below) (by exact hRp.low.1) (by exact hon2.1) (by exact hA1) (by exact hon2.2)) Tryz.call95 hS rfl rfl rfl fun v W a hR hB hlt hS => ?_
 subst hR
 refine st_v hS rfl rfl (run_field (fun W => fd31_0 _ _ W) hS rfl) fun a hS => st_v hS rfl rfl (run_assign hS rfl) fun a hS => wl_nil ?_
 refine wpIn_seq ?_
 refine wpIn_region_lit ?_
 refine st_v hS rfl rfl (run_fieldAddr fa118_0 hS rfl) fun a hS => st_v hS rfl rfl (run_fieldAddr fa27_6 hS rfl) fun a hS => st_v hS rfl rfl (run_load_agg (i := 2) (vs := [_, _, _]) Tryz.isAgg25 Tryz.sizeOf25 hS rfl rfl rfl ⟨rfl, rfl, rfl, trivial⟩) fun a hS => st_v hS rfl rfl (run_load_all (i := 1) Tryz.isAgg31 Tryz.sizeOf31 hS rfl rfl rfl) fun a hS => st_v hS rfl rfl (run_fieldAddr fa118_1 hS rfl) fun a hS => st_v hS rfl rfl (run_fieldAddr fa33_0 hS rfl) fun a hS => st_v hS rfl rfl (run_load_agg (i := 2) (vs := [_, _]) Tryz.isAgg31 Tryz.sizeOf31 hS rfl rfl rfl ⟨rfl, rfl, trivial⟩) fun a hS => st_v hS rfl rfl (run_build (pv := [(0, .agg #[.slice _ _ _, .slice _ _ _, .slice _ _ _]), (1, .agg #[.int .i64 _, .int .i64 _]), (2, .agg #[.int .i64 _, .int .i64 _])]) (fun W => bd122_0_1_2 _ _ _ _ _ _ _ _ _ _ _ _ _ W) hS rfl) fun a hS => st_call (rotor_bound (⟨Vr.high, r.high, p, A.weight⟩ : LookV) ((fun W hC => (Hr W hC).high) _ hS.below) (by exact hRp.high.1) (by exact hon2.1) (by exact hA1) (by exact honh)) Tryz.call95 hS rfl rfl rfl fun v W a hR hB hlt hS => ?_
 subst hR
 refine st_v hS rfl rfl (run_field (fun W => fd31_1 _ _ W) hS rfl) fun a hS => st_v hS rfl rfl (run_assign hS rfl) fun a hS => wl_nil ?_
 refine wpIn_seq ?_
 refine wpIn_region_lit ?_
 refine st_v hS rfl rfl (run_fieldAddr fa31_1 hS rfl) fun a hS => st_v hS rfl rfl (run_load_one (i := 0) Tryz.isAgg3 hS rfl rfl rfl) fun a hS => st_v hS rfl rfl (run_move hS rfl) fun a hS => st_v hS rfl rfl (run_bin hS rfl rfl rfl) fun a hS => st_v hS rfl rfl (run_move hS rfl) fun a hS => ?_
 refine st_split (d := 28) hS rfl (fun hc1 hS => ?_) (fun hc1 hS => ?_)
 ·
  try simp only [ty] at hc1
  refine st_v hS (hS.wanted rfl rfl rfl) rfl (run_fieldAddr fa31_0 hS rfl) fun a hS => st_v hS (hS.wanted rfl rfl rfl) rfl (run_load_one (i := 0) Tryz.isAgg3 hS rfl rfl rfl) fun a hS => st_v hS (hS.wanted rfl rfl rfl) rfl (run_move hS rfl) fun a hS => st_v hS (hS.wanted rfl rfl rfl) rfl (run_bin hS rfl rfl rfl) fun a hS => st_v hS rfl rfl (run_pick_t hS rfl rfl) fun a hS => st_v hS rfl rfl (run_assign hS rfl) fun a hS => wl_nil ?_
  have hS := hS.sub (κ' := [(0, _), (1, _), (2, _), (3, _), (4, _), (5, _), (6, _), (7, _), (8, _)]) (Sub.cons rfl (Sub.cons rfl (Sub.cons rfl (Sub.cons rfl (Sub.cons rfl (Sub.cons rfl (Sub.cons rfl (Sub.cons rfl (Sub.cons rfl Sub.nil)))))))))
  refine wpIn_ret ?_
  repeat (first | refine q_ret ?_ | refine q_block_ret ?_)
  refine hS.done (res1 (fn := Tryz.f84) (r1 := .tmp 6) rfl (rv_tmp hS rfl)) ?_
  refine vb ?_; simp only [wakeOf, Bool.and_eq_true, decide_eq_true_eq, Bool.false_eq_true, false_iff]; omega
 ·
  try simp only [ty] at hc1
  refine st_skip hS (hS.unwanted rfl rfl rfl rfl) rfl fun a hS => st_skip hS (hS.unwanted rfl rfl rfl rfl) rfl fun a hS => st_skip hS (hS.unwanted rfl rfl rfl rfl) rfl fun a hS => st_skip hS (hS.unwanted rfl rfl rfl rfl) rfl fun a hS => st_v hS rfl rfl (run_pick_f hS rfl rfl) fun a hS => st_v hS rfl rfl (run_assign hS rfl) fun a hS => wl_nil ?_
  have hS := hS.sub (κ' := [(0, _), (1, _), (2, _), (3, _), (4, _), (5, _), (6, _), (7, _), (8, _)]) (Sub.cons rfl (Sub.cons rfl (Sub.cons rfl (Sub.cons rfl (Sub.cons rfl (Sub.cons rfl (Sub.cons rfl (Sub.cons rfl (Sub.cons rfl Sub.nil)))))))))
  refine wpIn_ret ?_
  repeat (first | refine q_ret ?_ | refine q_block_ret ?_)
  refine hS.done (res1 (fn := Tryz.f84) (r1 := .tmp 6) rfl (rv_tmp hS rfl)) ?_
  refine vb ?_; simp only [wakeOf, Bool.and_eq_true, decide_eq_true_eq, Bool.false_eq_true, false_iff]; omega


set_option maxHeartbeats 2000000 in
set_option maxRecDepth 100000 in
theorem ref02_wake  (Vr : RV) (r : Rot) (A : Air) (p : Span) (q : Span) {w : World} {Fr : Nat → Prop} (hr : RotR Fr w Vr r) (hrok : rotOk r = true) (haok : airOk A = true) (hon : onRing r A p = true) : Ret Tryz.prog 204 [.agg (rotC Vr r).toArray, .agg (airC A).toArray, .agg (spanC p).toArray, .agg (spanC q).toArray] w (fun v _ => v = .bool (wakeOf r A p q)) := by
 refine ret_start (n := 31) Tryz.func204 rfl rfl rfl (fun a hS => ?_)
 have Hr : ∀ W, Below w.heap.size w W → RotR Fr W Vr r := fun W hb => hr.move (keep_of hb)
 have hRp := rot_p hrok
 obtain ⟨hA1, hA2, hA3, hA4⟩ := (airOk_iff A).1 haok
 have hon2 := hon
 simp only [onRing, Bool.and_eq_true] at hon2
 have honh : liesT r.high p A.weight = true := by rw [ring_same hRp]; exact hon2.2
 refine wpIn_seq ?_
 refine wpIn_region_lit ?_
 refine st_box_agg hS rfl rfl rfl fun W a b0 hS => st_box_agg hS rfl rfl rfl fun W a b1 hS => st_box_agg hS rfl rfl rfl fun W a b2 hS => st_box_agg hS rfl rfl rfl fun W a b3 hS => st_v hS rfl rfl (run_assign hS rfl) fun a hS => wl_nil ?_
 refine wpIn_seq ?_
 refine st_draw (by kernel_rfl) (by kernel_rfl) hS ?_
 refine qt_v hS rfl rfl (fun W hB hS => run_fieldAddr fa31_1 hS rfl) fun a hS => qt_v hS rfl rfl (fun W hB hS => run_load_one (i := 0) Tryz.isAgg3 hS rfl rfl rfl) fun a hS => qt_v hS rfl rfl (fun W hB hS => run_fieldAddr fa27_5 hS rfl) fun a hS => qt_v hS rfl rfl (fun W hB hS => run_load_agg (i := 3) (vs := [_, _, _]) Tryz.isAgg25 Tryz.sizeOf25 hS rfl rfl rfl ⟨rfl, rfl, rfl, trivial⟩) fun a hS => qt_v hS rfl rfl (fun W hB hS => run_load_all (i := 1) Tryz.isAgg31 Tryz.sizeOf31 hS rfl rfl rfl) fun a hS => qt_v hS rfl rfl (fun W hB hS => run_fieldAddr fa33_0 hS rfl) fun a hS => qt_v hS rfl rfl (fun W hB hS => run_load_agg (i := 2) (vs := [_, _]) Tryz.isAgg31 Tryz.sizeOf31 hS rfl rfl rfl ⟨rfl, rfl, trivial⟩) fun a hS => qt_call hS rfl rfl Tryz.call113 rfl (fun W hB hS => ref02_bound Vr.low r.low p A.weight ((fun W hC => (Hr W hC).low) _ hS.below) (by exact hRp.low.1) (by exact hon2.1) (by exact hA1) (by exact hon2.2)) fun a hS => qt_v hS rfl rfl (fun W hB hS => run_field (fun W => fd31_0 _ _ W) hS rfl) fun a hS => qt_v hS rfl rfl (fun W hB hS => run_bin hS rfl rfl rfl) fun a hS => qt_v hS rfl rfl (fun W hB hS => run_move hS rfl) fun a hS => ?_
 refine st_split (d := 19) hS rfl (fun hc1 hS => ?_) (fun hc1 hS => ?_)
 ·
  try simp only [ty] at hc1
  refine qt_v hS (hS.wanted rfl rfl rfl) rfl (fun W hB hS => run_fieldAddr fa31_0 hS rfl) fun a hS => qt_v hS (hS.wanted rfl rfl rfl) rfl (fun W hB hS => run_load_one (i := 0) Tryz.isAgg3 hS rfl rfl rfl) fun a hS => qt_v hS (hS.wanted rfl rfl rfl) rfl (fun W hB hS => run_fieldAddr fa27_6 hS rfl) fun a hS => qt_v hS (hS.wanted rfl rfl rfl) rfl (fun W hB hS => run_load_agg (i := 3) (vs := [_, _, _]) Tryz.isAgg25 Tryz.sizeOf25 hS rfl rfl rfl ⟨rfl, rfl, rfl, trivial⟩) fun a hS => qt_v hS (hS.wanted rfl rfl rfl) rfl (fun W hB hS => run_load_all (i := 1) Tryz.isAgg31 Tryz.sizeOf31 hS rfl rfl rfl) fun a hS => qt_v hS (hS.wanted rfl rfl rfl) rfl (fun W hB hS => run_fieldAddr fa33_0 hS rfl) fun a hS => qt_v hS (hS.wanted rfl rfl rfl) rfl (fun W hB hS => run_load_agg (i := 2) (vs := [_, _]) Tryz.isAgg31 Tryz.sizeOf31 hS rfl rfl rfl ⟨rfl, rfl, trivial⟩) fun a hS => qt_call hS (hS.wanted rfl rfl rfl) rfl Tryz.call113 rfl (fun W hB hS => ref02_bound Vr.high r.high p A.weight ((fun W hC => (Hr W hC).high) _ hS.below) (by exact hRp.high.1) (by exact hon2.1) (by exact hA1) (by exact honh)) fun a hS => qt_v hS (hS.wanted rfl rfl rfl) rfl (fun W hB hS => run_field (fun W => fd31_1 _ _ W) hS rfl) fun a hS => qt_v hS (hS.wanted rfl rfl rfl) rfl (fun W hB hS => run_bin hS rfl rfl rfl) fun a hS => qt_v hS rfl rfl (fun W hB hS => run_pick_t hS rfl rfl) fun a hS => qt_v hS rfl rfl (fun W hB hS => run_assign hS rfl) fun a hS => qt_nil hS fun W hS => ?_
  refine wpIn_ret ?_
  repeat (first | refine q_ret ?_ | refine q_block_ret ?_)
  refine hS.done (res1 (fn := Tryz.f204) (r1 := .tmp 8) rfl (rv_tmp hS rfl)) ?_
  refine vb ?_; simp only [wakeOf, Bool.and_eq_true, decide_eq_true_eq, Bool.false_eq_true, false_iff]; omega
 ·
  try simp only [ty] at hc1
  refine qt_skip hS (hS.unwanted rfl rfl rfl rfl) rfl fun a hS => qt_skip hS (hS.unwanted rfl rfl rfl rfl) rfl fun a hS => qt_skip hS (hS.unwanted rfl rfl rfl rfl) rfl fun a hS => qt_skip hS (hS.unwanted rfl rfl rfl rfl) rfl fun a hS => qt_skip hS (hS.unwanted rfl rfl rfl rfl) rfl fun a hS => qt_skip hS (hS.unwanted rfl rfl rfl rfl) rfl fun a hS => qt_skip hS (hS.unwanted rfl rfl rfl rfl) rfl fun a hS => qt_skip hS (hS.unwanted rfl rfl rfl rfl) rfl fun a hS => qt_skip hS (hS.unwanted rfl rfl rfl rfl) rfl fun a hS => qt_skip hS (hS.unwanted rfl rfl rfl rfl) rfl fun a hS => qt_v hS rfl rfl (fun W hB hS => run_pick_f hS rfl rfl) fun a hS => qt_v hS rfl rfl (fun W hB hS => run_assign hS rfl) fun a hS => qt_nil hS fun W hS => ?_
  refine wpIn_ret ?_
  repeat (first | refine q_ret ?_ | refine q_block_ret ?_)
  refine hS.done (res1 (fn := Tryz.f204) (r1 := .tmp 8) rfl (rv_tmp hS rfl)) ?_
  refine vb ?_; simp only [wakeOf, Bool.and_eq_true, decide_eq_true_eq, Bool.false_eq_true, false_iff]; omega


set_option maxHeartbeats 2000000 in
set_option maxRecDepth 100000 in
theorem rotor_wk1 {Vr : RV} {r : Rot} {A : Air} {p : Span} {Fr : Nat → Prop} (pc0 : Addr) (pc1 : Addr) {w : World} (hc0 : CellsAt w pc0 (machC Vr r A)) (hc1 : CellsAt w pc1 (spanC p)) (hrr : RotR Fr w Vr r) : Ret Tryz.prog 215 [.pointer (some pc0), .pointer (some pc1)] w (fun v W' => ∃ s : SV, v = .slice s.a (([⟨Vr.low, r.low, p, A.weight⟩] : List LookV)).length s.c ∧ Sl kLook (fun k => w.heap.size ≤ k) W' s ([⟨Vr.low, r.low, p, A.weight⟩] : List LookV)) := by
 refine ret_start (n := 7) Tryz.func215 rfl rfl rfl (fun a hS => ?_)
 have Hc0 : ∀ W, Below w.heap.size w W → CellsAt W pc0 (machC Vr r A) := fun W hb => hc0.at_ hb
 have Hc1 : ∀ W, Below w.heap.size w W → CellsAt W pc1 (spanC p) := fun W hb => hc1.at_ hb
 have Hr : ∀ W, Below w.heap.size w W → RotR Fr W Vr r := fun W hb => hrr.move (keep_of hb)
 refine wpIn_seq ?_
 refine wpIn_region_lit ?_
 refine st_v hS rfl rfl (run_assign hS rfl) fun a hS => wl_nil ?_
 refine wpIn_seq ?_
 refine wpIn_region_lit ?_
 refine st_v hS rfl rfl (run_load_ext Tryz.isAgg118 Tryz.sizeOf118 hS rfl rfl (Hc0 _ hS.below)) fun a hS => st_v hS rfl rfl (run_load_ext Tryz.isAgg31 Tryz.sizeOf31 hS rfl rfl (Hc1 _ hS.below)) fun a hS => st_call (mach_ring Vr r A p (Hr _ hS.below)) Tryz.call79 hS rfl rfl rfl fun v W a hR hB hlt hS => ?_
 subst hR
 refine st_buildSlice (pv := [(0, .agg #[.slice _ _ _, .slice _ _ _, .slice _ _ _, .int .i64 _, .int .i64 _, .int .i64 _, .int .i64 _])]) (fun W => bs120_1_0 _ _ _ _ _ _ _ _ _ _ _ _ _ W) hS rfl rfl rfl fun W a b0 hS => st_v hS rfl rfl (run_assign hS rfl) fun a hS => wl_nil ?_
 refine wpIn_ret ?_
 repeat (first | refine q_ret ?_ | refine q_block_ret ?_)
 refine hS.done (res1 (fn := Tryz.f215) (r1 := .tmp 2) rfl (rv_tmp hS rfl)) ?_
 exact ⟨⟨some ⟨b0, 0, none⟩, 1⟩, rfl, own_new (enc := lookC) (nn := 7) (bb := 104) (hb := by decide) (hl := fun _ => rfl) ([⟨Vr.low, r.low, p, A.weight⟩] : List LookV) hS (i := 0) rfl rfl (Nat.le_of_ble_eq_true rfl)⟩


theorem t2b {p q : Bool} {e e' : Int} (h1 : p = q) (h2 : e = e') : Value.tuple #[.bool p, .int .i64 e] = Value.tuple #[.bool q, .int .i64 e'] := by subst h1 h2; rfl


set_option maxHeartbeats 2000000 in
set_option maxRecDepth 100000 in
theorem rotor_Wake  (Vr : RV) (r : Rot) (A : Air) (p : Span) (q : Span) {w : World} {Fr : Nat → Prop} (hr : RotR Fr w Vr r)  : Ret Tryz.prog 171 [.agg (rotC Vr r).toArray, .agg (airC A).toArray, .agg (spanC p).toArray, .agg (spanC q).toArray] w (fun v _ => v = .tuple #[.bool (if errC r A (onWake r A p q) = 0 then wakeOf r A p q else false), .int .i64 (errC r A (onWake r A p q))]) := by
 refine ret_start (n := 29) Tryz.func171 rfl rfl rfl (fun a hS => ?_)
 have Hr : ∀ W, Below w.heap.size w W → RotR Fr W Vr r := fun W hb => hr.move (keep_of hb)
 refine wpIn_seq ?_
 refine wpIn_region_lit ?_
 refine st_box_agg hS rfl rfl rfl fun W a b0 hS => st_box_agg hS rfl rfl rfl fun W a b1 hS => st_box_agg hS rfl rfl rfl fun W a b2 hS => st_box_agg hS rfl rfl rfl fun W a b3 hS => st_v hS rfl rfl (run_assign hS rfl) fun a hS => st_v hS rfl rfl (run_assign hS rfl) fun a hS => wl_nil ?_
 refine wpIn_seq ?_
 refine wpIn_region_lit ?_
 refine st_v hS rfl rfl (run_load_all (i := 3) Tryz.isAgg27 Tryz.sizeOf27 hS rfl rfl rfl) fun a hS => st_v hS rfl rfl (run_load_all (i := 2) Tryz.isAgg33 Tryz.sizeOf33 hS rfl rfl rfl) fun a hS => st_v hS rfl rfl (run_build (pv := [(0, .agg #[.slice _ _ _, .slice _ _ _, .slice _ _ _, .slice _ _ _, .slice _ _ _, .slice _ _ _, .slice _ _ _, .slice _ _ _, .slice _ _ _, .slice _ _ _, .slice _ _ _, .slice _ _ _, .slice _ _ _, .slice _ _ _, .slice _ _ _, .slice _ _ _, .slice _ _ _, .slice _ _ _, .slice _ _ _, .slice _ _ _, .slice _ _ _, .slice _ _ _, .slice _ _ _, .slice _ _ _, .int .i64 _, .int .i64 _]), (1, .agg #[.int .i64 _, .int .i64 _, .int .i64 _, .int .i64 _, .int .i64 _, .int .i64 _, .int .i64 _, .int .i64 _])]) (fun W => bd118_0_1 _ _ _ _ _ _ _ _ _ _ _ _ _ _ _ _ _ _ _ _ _ _ _ _ _ _ _ _ _ _ _ _ _ _ _ _ _ _ _ _ _ _ _ _ _ _ _ _ _ _ _ _ _ _ _ _ _ _ _ _ _ _ _ _ _ _ _ _ _ _ _ _ _ _ _ _ _ _ _ _ _ _ W) hS rfl) fun a hS => st_alloc_agg Tryz.zeroValue118 hS rfl rfl fun W a b4 hS => st_store (cs' := [.slice Vr.hover.x.a r.hover.X.length Vr.hover.x.c, .slice Vr.hover.y.a r.hover.Y.length Vr.hover.y.c, .slice Vr.hover.v.a r.hover.V.length Vr.hover.v.c, .slice Vr.ground.x.a r.ground.X.length Vr.ground.x.c, .slice Vr.ground.y.a r.ground.Y.length Vr.ground.y.c, .slice Vr.ground.v.a r.ground.V.length Vr.ground.v.c, .slice Vr.level.x.a r.level.X.length Vr.level.x.c, .slice Vr.level.y.a r.level.Y.length Vr.level.y.c, .slice Vr.level.v.a r.level.V.length Vr.level.v.c, .slice Vr.power.x.a r.power.X.length Vr.power.x.c, .slice Vr.power.y.a r.power.Y.length Vr.power.y.c, .slice Vr.power.v.a r.power.V.length Vr.power.v.c, .slice Vr.never.x.a r.never.X.length Vr.never.x.c, .slice Vr.never.y.a r.never.Y.length Vr.never.y.c, .slice Vr.never.v.a r.never.V.length Vr.never.v.c, .slice Vr.low.x.a r.low.X.length Vr.low.x.c, .slice Vr.low.y.a r.low.Y.length Vr.low.y.c, .slice Vr.low.v.a r.low.V.length Vr.low.v.c, .slice Vr.high.x.a r.high.X.length Vr.high.x.c, .slice Vr.high.y.a r.high.Y.length Vr.high.y.c, .slice Vr.high.v.a r.high.V.length Vr.high.v.c, .slice Vr.glide.x.a r.glide.X.length Vr.glide.x.c, .slice Vr.glide.y.a r.glide.Y.length Vr.glide.y.c, .slice Vr.glide.v.a r.glide.V.length Vr.glide.v.c, .int .i64 r.climb, .int .i64 r.burn, .int .i64 A.weight.lo, .int .i64 A.weight.hi, .int .i64 A.temp.lo, .int .i64 A.temp.hi, .int .i64 A.height.lo, .int .i64 A.height.hi, .int .i64 A.wind.lo, .int .i64 A.wind.hi]) (i := 0) Tryz.sizeOf118 hS rfl rfl rfl rfl rfl rfl rfl rfl rfl fun W a hS => wl_nil ?_
 refine wpIn_seq ?_
 refine wpIn_seq ?_
 refine wpIn_region_lit ?_
 refine st_v hS rfl rfl (run_load_all (i := 4) Tryz.isAgg27 Tryz.sizeOf27 hS rfl rfl rfl) fun a hS => st_v hS rfl rfl (run_load_all (i := 3) Tryz.isAgg33 Tryz.sizeOf33 hS rfl rfl rfl) fun a hS => st_v hS rfl rfl (run_load_all (i := 2) Tryz.isAgg31 Tryz.sizeOf31 hS rfl rfl rfl) fun a hS => st_v hS rfl rfl (run_load_all (i := 1) Tryz.isAgg31 Tryz.sizeOf31 hS rfl rfl rfl) fun a hS => st_buildSlice (pv := [(0, .agg #[.int .i64 _, .int .i64 _]), (1, .agg #[.int .i64 _, .int .i64 _])]) (fun W => bs61_2_0_1 _ _ _ _ W) hS rfl rfl rfl fun W a b5 hS => st_v hS rfl rfl (run_makeFunc hS rfl rfl) fun a hS => st_call (rotor_check Vr r A (⟨some ⟨b5, 0, none⟩, 2⟩ : SV) [p, q] 215 [.pointer (some ⟨b4, 0, none⟩), .pointer (some ⟨b2, 0, none⟩)] ([⟨Vr.low, r.low, p, A.weight⟩] : List LookV) (Hr _ hS.below) (own_sl_of (dk := kSpan) (enc := spanC) (xs := [p, q]) (fun _ _ _ => rfl) hS (i := 0) rfl (Nat.le_of_ble_eq_true rfl)) Tryz.call215 (fun W' hb _ => rotor_wk1 _ _ (hS.cells (i := 1) rfl _ hb) (hS.cells (i := 3) rfl _ hb) (hr.move (keep_of (hS.below.trans (hb.mono hS.below.size))))) (fun hrok x hx => by
   have hRp := rot_p hrok
   have hr' := Hr _ hS.below
   simp only [List.mem_cons, List.not_mem_nil, or_false] at hx
   subst hx
   exact ⟨hr'.low, hRp.low.1⟩)) Tryz.call77 hS rfl rfl rfl fun v W a hR hB hlt hS => ?_
 rw [show errC r A (([p, q] : List Span).all Span.ok && ([⟨Vr.low, r.low, p, A.weight⟩] : List LookV).all fun x => liesT x.t x.p x.q) = errC r A (onWake r A p q) from errC_congr fun hrok => by
   have hRp := rot_p hrok
   simp [onWake, onRing]; cases p.ok <;> cases q.ok <;> simp] at hR
 subst hR
 refine st_v hS rfl rfl (run_assign hS rfl) fun a hS => wl_nil ?_
 refine wpIn_seq ?_
 refine wpIn_region_lit ?_
 refine st_v hS rfl rfl (run_move hS rfl) fun a hS => st_v hS rfl rfl (run_bin hS rfl rfl rfl) fun a hS => wl_nil ?_
 refine st_cond hS rfl (fun hc1 => ?_) (fun hc1 => ?_)
 ·
  try simp only [ty] at hc1
  refine wpIn_seq ?_
  refine wpIn_region_lit ?_
  refine st_v hS rfl rfl (run_move hS rfl) fun a hS => st_v hS rfl rfl (run_assign hS rfl) fun a hS => st_v hS rfl rfl (run_assign hS rfl) fun a hS => wl_nil ?_
  refine wpIn_ret ?_
  repeat (first | refine q_ret ?_ | refine q_block_ret ?_)
  refine hS.done (res2 (fn := Tryz.f171) (r1 := .tmp 8) (r2 := .tmp 9) rfl (rv_tmp hS rfl) (rv_tmp hS rfl)) ?_
  exact t2b (p := false) (by rw [if_neg hc1]) rfl
 ·
  try simp only [ty] at hc1
  obtain ⟨hrok, haok, hon⟩ := errC_ok hc1
  obtain ⟨hA1, hA2, hA3, hA4⟩ := (airOk_iff A).1 haok
  have hRp := rot_p hrok
  simp only [onWake, Bool.and_eq_true] at hon
  refine wpIn_skip ?_
  refine wpIn_seq ?_
  refine wpIn_region_lit ?_
  refine st_v hS rfl rfl (run_load_all (i := 1) Tryz.isAgg118 Tryz.sizeOf118 hS rfl rfl rfl) fun a hS => st_v hS rfl rfl (run_load_all (i := 3) Tryz.isAgg31 Tryz.sizeOf31 hS rfl rfl rfl) fun a hS => st_v hS rfl rfl (run_load_all (i := 2) Tryz.isAgg31 Tryz.sizeOf31 hS rfl rfl rfl) fun a hS => st_call (mach_wake Vr r A p q (Hr _ hS.below) (by assumption) (by assumption) (by exact hon.2)) Tryz.call84 hS rfl rfl rfl fun v W a hR hB hlt hS => ?_
  subst hR
  refine st_v hS rfl rfl (run_assign hS rfl) fun a hS => st_v hS rfl rfl (run_assign hS rfl) fun a hS => wl_nil ?_
  refine wpIn_ret ?_
  repeat (first | refine q_ret ?_ | refine q_block_ret ?_)
  refine hS.done (res2 (fn := Tryz.f171) (r1 := .tmp 8) (r2 := .tmp 9) rfl (rv_tmp hS rfl) (rv_tmp hS rfl)) ?_
  exact t2b (p := wakeOf r A p q) (by rw [if_pos hc1]) hc1.symm


set_option maxHeartbeats 2000000 in
set_option maxRecDepth 100000 in
theorem ref02_Wake  (Vr : RV) (r : Rot) (A : Air) (p : Span) (q : Span) {w : World} {Fr : Nat → Prop} (hr : RotR Fr w Vr r)  : Ret Tryz.prog 136 [.agg (rotC Vr r).toArray, .agg (airC A).toArray, .agg (spanC p).toArray, .agg (spanC q).toArray] w (fun v _ => v = .tuple #[.bool (if errC r A (onWake r A p q) = 0 then wakeOf r A p q else false), .int .i64 (errC r A (onWake r A p q))]) := by
 refine ret_start (n := 34) Tryz.func136 rfl rfl rfl (fun a hS => ?_)
 have Hr : ∀ W, Below w.heap.size w W → RotR Fr W Vr r := fun W hb => hr.move (keep_of hb)
 refine wpIn_seq ?_
 refine wpIn_region_lit ?_
 refine st_box_agg hS rfl rfl rfl fun W a b0 hS => st_box_agg hS rfl rfl rfl fun W a b1 hS => st_box_agg hS rfl rfl rfl fun W a b2 hS => st_box_agg hS rfl rfl rfl fun W a b3 hS => st_v hS rfl rfl (run_assign hS rfl) fun a hS => st_v hS rfl rfl (run_assign hS rfl) fun a hS => wl_nil ?_
 refine wpIn_seq ?_
 refine wpIn_region_lit ?_
 refine st_v hS rfl rfl (run_load_all (i := 3) Tryz.isAgg27 Tryz.sizeOf27 hS rfl rfl rfl) fun a hS => st_v hS rfl rfl (run_load_all (i := 2) Tryz.isAgg33 Tryz.sizeOf33 hS rfl rfl rfl) fun a hS => st_call (ref02_CheckAir Vr r A (Hr _ hS.below)) Tryz.call160 hS rfl rfl rfl fun v W a hR hB hlt hS => ?_
 subst hR
 refine st_v hS rfl rfl (run_assign hS rfl) fun a hS => wl_nil ?_
 refine wpIn_seq ?_
 refine wpIn_seq ?_
 refine wpIn_region_lit ?_
 refine st_v hS rfl rfl (run_move hS rfl) fun a hS => st_v hS rfl rfl (run_bin hS rfl rfl rfl) fun a hS => wl_nil ?_
 refine st_cond hS rfl (fun hc1 => ?_) (fun hc1 => ?_)
 ·
  try simp only [ty] at hc1
  refine wpIn_seq ?_
  refine wpIn_region_lit ?_
  refine st_v hS rfl rfl (run_move hS rfl) fun a hS => st_v hS rfl rfl (run_assign hS rfl) fun a hS => st_v hS rfl rfl (run_assign hS rfl) fun a hS => wl_nil ?_
  refine wpIn_ret ?_
  repeat (first | refine q_ret ?_ | refine q_block_ret ?_)
  refine hS.done (res2 (fn := Tryz.f136) (r1 := .tmp 8) (r2 := .tmp 9) rfl (rv_tmp hS rfl) (rv_tmp hS rfl)) ?_
  have hE : errC r A (onWake r A p q) = errC r A true := errC_t hc1
  exact t2b (p := false) (by rw [hE, if_neg hc1]) hE.symm
 ·
  try simp only [ty] at hc1
  obtain ⟨hrok, haok, _⟩ := errC_ok hc1
  obtain ⟨hA1, hA2, hA3, hA4⟩ := (airOk_iff A).1 haok
  have hRp := rot_p hrok
  refine wpIn_skip ?_
  refine wpIn_seq ?_
  refine wpIn_seq ?_
  refine wpIn_region_lit ?_
  refine st_v hS rfl rfl (run_load_all (i := 0) Tryz.isAgg31 Tryz.sizeOf31 hS rfl rfl rfl) fun a hS => st_call (ref01_Valid q) Tryz.call184 hS rfl rfl rfl fun v W a hR hB hlt hS => ?_
  subst hR
  refine st_v hS rfl rfl (run_not hS rfl) fun a hS => st_v hS rfl rfl (run_move hS rfl) fun a hS => ?_
  refine st_split (d := 20) hS rfl (fun hc2 hS => ?_) (fun hc2 hS => ?_)
  ·
   try simp only [ty] at hc2
   refine st_skip hS (hS.unwanted rfl rfl rfl rfl) rfl fun a hS => st_skip hS (hS.unwanted rfl rfl rfl rfl) rfl fun a hS => st_skip hS (hS.unwanted rfl rfl rfl rfl) rfl fun a hS => st_skip hS (hS.unwanted rfl rfl rfl rfl) rfl fun a hS => st_skip hS (hS.unwanted rfl rfl rfl rfl) rfl fun a hS => st_skip hS (hS.unwanted rfl rfl rfl rfl) rfl fun a hS => st_skip hS (hS.unwanted rfl rfl rfl rfl) rfl fun a hS => st_v hS rfl rfl (run_pick_t hS rfl rfl) fun a hS => wl_nil ?_
   refine st_cond_t hS rfl ?_
   refine wpIn_seq ?_
   refine wpIn_region_lit ?_
   refine st_v hS rfl rfl (run_assign hS rfl) fun a hS => st_v hS rfl rfl (run_assign hS rfl) fun a hS => wl_nil ?_
   refine wpIn_ret ?_
   repeat (first | refine q_ret ?_ | refine q_block_ret ?_)
   refine hS.done (res2 (fn := Tryz.f136) (r1 := .tmp 8) (r2 := .tmp 9) rfl (rv_tmp hS rfl) (rv_tmp hS rfl)) ?_
   have hf : onWake r A p q = false := by
     revert hc2
     unfold onWake onRing
     cases p.ok <;> cases q.ok <;> cases liesT r.low p A.weight <;> simp [hA1]
   have hE : errC r A (onWake r A p q) = 1 := errC_tf hrok haok hf
   exact t2b (p := false) (by rw [hE]; rfl) hE.symm
  ·
   try simp only [ty] at hc2
   refine st_v hS (hS.wanted rfl rfl rfl) rfl (run_fieldAddr fa27_5 hS rfl) fun a hS => st_v hS (hS.wanted rfl rfl rfl) rfl (run_load_agg (i := 3) (vs := [_, _, _]) Tryz.isAgg25 Tryz.sizeOf25 hS rfl rfl rfl ⟨rfl, rfl, rfl, trivial⟩) fun a hS => st_v hS (hS.wanted rfl rfl rfl) rfl (run_load_all (i := 1) Tryz.isAgg31 Tryz.sizeOf31 hS rfl rfl rfl) fun a hS => st_v hS (hS.wanted rfl rfl rfl) rfl (run_fieldAddr fa33_0 hS rfl) fun a hS => st_v hS (hS.wanted rfl rfl rfl) rfl (run_load_agg (i := 2) (vs := [_, _]) Tryz.isAgg31 Tryz.sizeOf31 hS rfl rfl rfl ⟨rfl, rfl, trivial⟩) fun a hS => st_call (ref02_lies Vr.low r.low p A.weight ((fun W hC => (Hr W hC).low) _ hS.below) (by exact hRp.low.1)) Tryz.call112 hS (hS.wanted rfl rfl rfl) rfl rfl fun v W a hR hB hlt hS => ?_
   subst hR
   refine st_v hS (hS.wanted rfl rfl rfl) rfl (run_not hS rfl) fun a hS => st_v hS rfl rfl (run_pick_f hS rfl rfl) fun a hS => wl_nil ?_
   refine st_cond hS rfl (fun hc3 => ?_) (fun hc3 => ?_)
   ·
    try simp only [ty] at hc3
    refine wpIn_seq ?_
    refine wpIn_region_lit ?_
    refine st_v hS rfl rfl (run_assign hS rfl) fun a hS => st_v hS rfl rfl (run_assign hS rfl) fun a hS => wl_nil ?_
    refine wpIn_ret ?_
    repeat (first | refine q_ret ?_ | refine q_block_ret ?_)
    refine hS.done (res2 (fn := Tryz.f136) (r1 := .tmp 8) (r2 := .tmp 9) rfl (rv_tmp hS rfl) (rv_tmp hS rfl)) ?_
    have hf : onWake r A p q = false := by
      revert hc2 hc3
      unfold onWake onRing
      cases p.ok <;> cases q.ok <;> cases liesT r.low p A.weight <;> simp [hA1]
    have hE : errC r A (onWake r A p q) = 1 := errC_tf hrok haok hf
    exact t2b (p := false) (by rw [hE]; rfl) hE.symm
   ·
    try simp only [ty] at hc3
    have ht : onWake r A p q = true := by
      revert hc2 hc3
      unfold onWake onRing
      cases p.ok <;> cases q.ok <;> cases liesT r.low p A.weight <;> simp [hA1]
    have ht2 := ht
    simp only [onWake, Bool.and_eq_true] at ht2
    refine wpIn_skip ?_
    refine wpIn_seq ?_
    refine wpIn_region_lit ?_
    refine st_v hS rfl rfl (run_load_all (i := 3) Tryz.isAgg27 Tryz.sizeOf27 hS rfl rfl rfl) fun a hS => st_v hS rfl rfl (run_load_all (i := 2) Tryz.isAgg33 Tryz.sizeOf33 hS rfl rfl rfl) fun a hS => st_v hS rfl rfl (run_load_all (i := 1) Tryz.isAgg31 Tryz.sizeOf31 hS rfl rfl rfl) fun a hS => st_v hS rfl rfl (run_load_all (i := 0) Tryz.isAgg31 Tryz.sizeOf31 hS rfl rfl rfl) fun a hS => st_call (ref02_wake Vr r A p q (Hr _ hS.below) (by assumption) (by assumption) (by exact ht2.2)) Tryz.call204 hS rfl rfl rfl fun v W a hR hB hlt hS => ?_
    subst hR
    refine st_v hS rfl rfl (run_assign hS rfl) fun a hS => st_v hS rfl rfl (run_assign hS rfl) fun a hS => wl_nil ?_
    refine wpIn_ret ?_
    repeat (first | refine q_ret ?_ | refine q_block_ret ?_)
    refine hS.done (res2 (fn := Tryz.f136) (r1 := .tmp 8) (r2 := .tmp 9) rfl (rv_tmp hS rfl) (rv_tmp hS rfl)) ?_
    have hE : errC r A (onWake r A p q) = 0 := errC_tt hrok haok ht
    exact t2b (p := wakeOf r A p q) (by rw [hE]; rfl) hE.symm


set_option maxHeartbeats 2000000 in
set_option maxRecDepth 100000 in
theorem rotor_one  {n : Int} {w : World}   : Ret Tryz.prog 80 [.int .i64 n] w (fun v _ => v = .agg (spanC (one n)).toArray) := by
 refine ret_start (n := 6) Tryz.func80 rfl rfl rfl (fun a hS => ?_)
 refine wpIn_seq ?_
 refine wpIn_region_lit ?_
 refine st_alloc_agg Tryz.zeroValue31 hS rfl rfl fun W a b0 hS => wl_nil ?_
 refine wpIn_seq ?_
 refine wpIn_region_lit ?_
 refine st_v hS rfl rfl (run_move hS rfl) fun a hS => st_v hS rfl rfl (run_move hS rfl) fun a hS => st_v hS rfl rfl (run_build (pv := [(0, .int .i64 _), (1, .int .i64 _)]) (fun W => bd31_0_1 _ _ W) hS rfl) fun a hS => st_store (i := 0) Tryz.sizeOf31 hS rfl rfl rfl rfl rfl rfl rfl rfl rfl fun W a hS => wl_nil ?_
 refine wpIn_ret ?_
 repeat (first | refine q_ret ?_ | refine q_block_ret ?_)
 refine hS.done (res1 (fn := Tryz.f80) (r1 := .cell 2 31) rfl (rv_agg (i := 0) Tryz.isAgg31 Tryz.sizeOf31 hS rfl rfl rfl)) ?_
 rfl


set_option maxHeartbeats 2000000 in
set_option maxRecDepth 100000 in
theorem rotor_rt1 {Vr : RV} {r : Rot} {A : Air} {n : Int} {Fr : Nat → Prop} (pc0 : Addr) (pc1 : Addr) {w : World} (hc0 : CellsAt w pc0 (machC Vr r A)) (hc1 : w.cell? pc1 = some (.int .i64 n)) (hrr : RotR Fr w Vr r) : Ret Tryz.prog 114 [.pointer (some pc0), .pointer (some pc1)] w (fun v W' => ∃ s : SV, v = .slice s.a (([⟨Vr.power, r.power, A.temp, A.height⟩, ⟨Vr.level, r.level, (one n), A.weight⟩] : List LookV)).length s.c ∧ Sl kLook (fun k => w.heap.size ≤ k) W' s ([⟨Vr.power, r.power, A.temp, A.height⟩, ⟨Vr.level, r.level, (one n), A.weight⟩] : List LookV)) := by
 refine ret_start (n := 10) Tryz.func114 rfl rfl rfl (fun a hS => ?_)
 have Hc0 : ∀ W, Below w.heap.size w W → CellsAt W pc0 (machC Vr r A) := fun W hb => hc0.at_ hb
 have Hc1 : ∀ W, Below w.heap.size w W → W.cell? pc1 = some (.int .i64 n) := fun W hb => cell_at hc1 hb
 have Hr : ∀ W, Below w.heap.size w W → RotR Fr W Vr r := fun W hb => hrr.move (keep_of hb)
 refine wpIn_seq ?_
 refine wpIn_region_lit ?_
 refine st_v hS rfl rfl (run_assign hS rfl) fun a hS => wl_nil ?_
 refine wpIn_seq ?_
 have hlt0 := fun B hB => hS.lt (b := B) hB
 refine st_mix (k := 6) (by kernel_rfl) (by kernel_rfl) hS rfl rfl ?_
 refine mx_v (fun a W hS hB => run_load_ext Tryz.isAgg118 Tryz.sizeOf118 hS rfl rfl (Hc0 _ hS.below)) <| mx_call Tryz.call94 rfl (fun a W hS hB => mach_power Vr r A (Hr _ hS.below)) <| mx_v (fun a W hS hB => run_load_ext Tryz.isAgg118 Tryz.sizeOf118 hS rfl rfl (Hc0 _ hS.below)) <| mx_v (fun a W hS hB => run_load_cell Tryz.isAgg3 hS rfl (Hc1 _ hS.below)) <| mx_call Tryz.call80 rfl (fun a W hS hB => rotor_one) <| mx_call Tryz.call115 rfl (fun a W hS hB => mach_level Vr r A (one n) (Hr _ hS.below)) <| ?_
 refine mx_end fun a W bs us hS hB hL => ?_
 dsimp only [kall, ball, List.cons_append, List.nil_append] at hS
 refine st_buildSlice (pv := [(0, .agg #[.slice _ _ _, .slice _ _ _, .slice _ _ _, .int .i64 _, .int .i64 _, .int .i64 _, .int .i64 _]), (1, .agg #[.slice _ _ _, .slice _ _ _, .slice _ _ _, .int .i64 _, .int .i64 _, .int .i64 _, .int .i64 _])]) (fun W => bs120_2_0_1 _ _ _ _ _ _ _ _ _ _ _ _ _ _ _ _ _ _ _ _ _ _ _ _ _ _ W) hS rfl rfl rfl fun W a b0 hS => st_v hS rfl rfl (run_assign hS rfl) fun a hS => wl_nil ?_
 refine wpIn_ret ?_
 repeat (first | refine q_ret ?_ | refine q_block_ret ?_)
 refine hS.done (res1 (fn := Tryz.f114) (r1 := .tmp 2) rfl (rv_tmp hS rfl)) ?_
 exact ⟨⟨some ⟨b0, 0, none⟩, 2⟩, rfl, own_new (enc := lookC) (nn := 7) (bb := 104) (hb := by decide) (hl := fun _ => rfl) ([⟨Vr.power, r.power, A.temp, A.height⟩, ⟨Vr.level, r.level, (one n), A.weight⟩] : List LookV) hS (i := 0) rfl rfl (Nat.le_of_ble_eq_true rfl)⟩


set_option maxHeartbeats 2000000 in
set_option maxRecDepth 100000 in
theorem mach_rate  (Vr : RV) (r : Rot) (A : Air) {n : Int} {w : World} {Fr : Nat → Prop} (hr : RotR Fr w Vr r) (hrok : rotOk r = true) (haok : airOk A = true) (hon : onRate r A n = true) : Ret Tryz.prog 107 [.agg (machC Vr r A).toArray, .int .i64 n] w (fun v _ => v = .int .i64 (rateOf r A n)) := by
 refine ret_start (n := 20) Tryz.func107 rfl rfl rfl (fun a hS => ?_)
 have Hr : ∀ W, Below w.heap.size w W → RotR Fr W Vr r := fun W hb => hr.move (keep_of hb)
 have hRp := rot_p hrok
 obtain ⟨hA1, hA2, hA3, hA4⟩ := (airOk_iff A).1 haok
 have hon2 := hon
 simp only [onRate, Bool.and_eq_true] at hon2
 have hon3 := hon2.2
 simp only [onLevel, Bool.and_eq_true] at hon3
 have h1 := hasOf_in hrok haok hon2.1
 have h2 := levelOf_in hrok haok hon2.2
 have hcl := hRp.climb
 unfold hasOf at h1
 unfold levelOf at h2
 refine wpIn_seq ?_
 refine wpIn_region_lit ?_
 refine st_box_agg hS rfl rfl rfl fun W a b0 hS => st_v hS rfl rfl (run_assign hS rfl) fun a hS => wl_nil ?_
 refine wpIn_seq ?_
 have hS := hS.sub (κ' := [(0, _), (1, _), (2, _)]) (Sub.cons rfl (Sub.cons rfl (Sub.cons rfl Sub.nil)))
 have hlt0 := fun B hB => hS.lt (b := B) hB
 refine st_mix (k := 16) (by kernel_rfl) (by kernel_rfl) hS rfl rfl ?_
 refine mx_v (fun a W hS hB => run_load_all (i := 0) Tryz.isAgg118 Tryz.sizeOf118 hS rfl rfl rfl) <| mx_call Tryz.call94 rfl (fun a W hS hB => mach_power Vr r A (Hr _ hS.below)) <| mx_call Tryz.call95 rfl (fun a W hS hB => rotor_bound (⟨Vr.power, r.power, A.temp, A.height⟩ : LookV) ((fun W hC => (Hr W hC).power) _ hS.below) (by exact hRp.power.1) (by exact hA2) (by exact hA3) (by exact hon2.1)) <| mx_v (fun a W hS hB => run_field (fun W => fd31_0 _ _ W) hS rfl) <| mx_v (fun a W hS hB => run_load_all (i := 0) Tryz.isAgg118 Tryz.sizeOf118 hS rfl rfl rfl) <| mx_v (fun a W hS hB => run_move hS rfl) <| mx_call Tryz.call80 rfl (fun a W hS hB => rotor_one) <| mx_call Tryz.call115 rfl (fun a W hS hB => mach_level Vr r A (one n) (Hr _ hS.below)) <| mx_call Tryz.call95 rfl (fun a W hS hB => rotor_bound (⟨Vr.level, r.level, (one n), A.weight⟩ : LookV) ((fun W hC => (Hr W hC).level) _ hS.below) (by exact hRp.level.1) (by exact hon3.1) (by exact hA1) (by exact hon3.2)) <| mx_v (fun a W hS hB => run_field (fun W => fd31_1 _ _ W) hS rfl) <| mx_v (fun a W hS hB => run_sub (t := (((bnd r.power A.temp A.height)).lo) - (((bnd r.level (one n) A.weight)).hi)) hS rfl rfl (rfl) (by omega) (by omega)) <| mx_v (fun a W hS hB => run_fieldAddr fa118_0 hS rfl) <| mx_v (fun a W hS hB => run_fieldAddr fa27_8 hS rfl) <| mx_v (fun a W hS hB => run_load_one (i := 0) Tryz.isAgg3 hS rfl rfl rfl) <| mx_call Tryz.call179 rfl (fun a W hS hB => rotor_floor (by omega) (by omega) (by omega)) <| mx_v (fun a W hS hB => run_assign hS rfl) <| ?_
 refine mx_end fun a W bs us hS hB hL => ?_
 dsimp only [kall, ball, List.cons_append, List.nil_append] at hS
 refine wl_nil ?_
 refine wpIn_ret ?_
 repeat (first | refine q_ret ?_ | refine q_block_ret ?_)
 refine hS.done (res1 (fn := Tryz.f107) (r1 := .tmp 4) rfl (rv_tmp hS rfl)) ?_
 rfl


set_option maxHeartbeats 2000000 in
set_option maxRecDepth 100000 in
theorem rotor_Rate  (Vr : RV) (r : Rot) (A : Air) {n : Int} {w : World} {Fr : Nat → Prop} (hr : RotR Fr w Vr r)  : Ret Tryz.prog 40 [.agg (rotC Vr r).toArray, .agg (airC A).toArray, .int .i64 n] w (fun v _ => v = .tuple #[.int .i64 (if errC r A (onRate r A n) = 0 then rateOf r A n else 0), .int .i64 (errC r A (onRate r A n))]) := by
 refine ret_start (n := 23) Tryz.func40 rfl rfl rfl (fun a hS => ?_)
 have Hr : ∀ W, Below w.heap.size w W → RotR Fr W Vr r := fun W hb => hr.move (keep_of hb)
 refine wpIn_seq ?_
 refine wpIn_region_lit ?_
 refine st_box_agg hS rfl rfl rfl fun W a b0 hS => st_box_agg hS rfl rfl rfl fun W a b1 hS => st_box_one hS rfl rfl rfl rfl fun W a b2 hS => st_v hS rfl rfl (run_assign hS rfl) fun a hS => st_v hS rfl rfl (run_assign hS rfl) fun a hS => wl_nil ?_
 refine wpIn_seq ?_
 refine wpIn_region_lit ?_
 refine st_v hS rfl rfl (run_load_all (i := 2) Tryz.isAgg27 Tryz.sizeOf27 hS rfl rfl rfl) fun a hS => st_v hS rfl rfl (run_load_all (i := 1) Tryz.isAgg33 Tryz.sizeOf33 hS rfl rfl rfl) fun a hS => st_v hS rfl rfl (run_build (pv := [(0, .agg #[.slice _ _ _, .slice _ _ _, .slice _ _ _, .slice _ _ _, .slice _ _ _, .slice _ _ _, .slice _ _ _, .slice _ _ _, .slice _ _ _, .slice _ _ _, .slice _ _ _, .slice _ _ _, .slice _ _ _, .slice _ _ _, .slice _ _ _, .slice _ _ _, .slice _ _ _, .slice _ _ _, .slice _ _ _, .slice _ _ _, .slice _ _ _, .slice _ _ _, .slice _ _ _, .slice _ _ _, .int .i64 _, .int .i64 _]), (1, .agg #[.int .i64 _, .int .i64 _, .int .i64 _, .int .i64 _, .int .i64 _, .int .i64 _, .int .i64 _, .int .i64 _])]) (fun W => bd118_0_1 _ _ _ _ _ _ _ _ _ _ _ _ _ _ _ _ _ _ _ _ _ _ _ _ _ _ _ _ _ _ _ _ _ _ _ _ _ _ _ _ _ _ _ _ _ _ _ _ _ _ _ _ _ _ _ _ _ _ _ _ _ _ _ _ _ _ _ _ _ _ _ _ _ _ _ _ _ _ _ _ _ _ W) hS rfl) fun a hS => st_alloc_agg Tryz.zeroValue118 hS rfl rfl fun W a b3 hS => st_store (cs' := [.slice Vr.hover.x.a r.hover.X.length Vr.hover.x.c, .slice Vr.hover.y.a r.hover.Y.length Vr.hover.y.c, .slice Vr.hover.v.a r.hover.V.length Vr.hover.v.c, .slice Vr.ground.x.a r.ground.X.length Vr.ground.x.c, .slice Vr.ground.y.a r.ground.Y.length Vr.ground.y.c, .slice Vr.ground.v.a r.ground.V.length Vr.ground.v.c, .slice Vr.level.x.a r.level.X.length Vr.level.x.c, .slice Vr.level.y.a r.level.Y.length Vr.level.y.c, .slice Vr.level.v.a r.level.V.length Vr.level.v.c, .slice Vr.power.x.a r.power.X.length Vr.power.x.c, .slice Vr.power.y.a r.power.Y.length Vr.power.y.c, .slice Vr.power.v.a r.power.V.length Vr.power.v.c, .slice Vr.never.x.a r.never.X.length Vr.never.x.c, .slice Vr.never.y.a r.never.Y.length Vr.never.y.c, .slice Vr.never.v.a r.never.V.length Vr.never.v.c, .slice Vr.low.x.a r.low.X.length Vr.low.x.c, .slice Vr.low.y.a r.low.Y.length Vr.low.y.c, .slice Vr.low.v.a r.low.V.length Vr.low.v.c, .slice Vr.high.x.a r.high.X.length Vr.high.x.c, .slice Vr.high.y.a r.high.Y.length Vr.high.y.c, .slice Vr.high.v.a r.high.V.length Vr.high.v.c, .slice Vr.glide.x.a r.glide.X.length Vr.glide.x.c, .slice Vr.glide.y.a r.glide.Y.length Vr.glide.y.c, .slice Vr.glide.v.a r.glide.V.length Vr.glide.v.c, .int .i64 r.climb, .int .i64 r.burn, .int .i64 A.weight.lo, .int .i64 A.weight.hi, .int .i64 A.temp.lo, .int .i64 A.temp.hi, .int .i64 A.height.lo, .int .i64 A.height.hi, .int .i64 A.wind.lo, .int .i64 A.wind.hi]) (i := 0) Tryz.sizeOf118 hS rfl rfl rfl rfl rfl rfl rfl rfl rfl fun W a hS => wl_nil ?_
 refine wpIn_seq ?_
 refine wpIn_seq ?_
 refine wpIn_region_lit ?_
 refine st_v hS rfl rfl (run_load_all (i := 3) Tryz.isAgg27 Tryz.sizeOf27 hS rfl rfl rfl) fun a hS => st_v hS rfl rfl (run_load_all (i := 2) Tryz.isAgg33 Tryz.sizeOf33 hS rfl rfl rfl) fun a hS => st_v hS rfl rfl (run_makeFunc hS rfl rfl) fun a hS => st_call (rotor_check Vr r A (⟨none, 0⟩ : SV) [] 114 [.pointer (some ⟨b3, 0, none⟩), .pointer (some ⟨b2, 0, none⟩)] ([⟨Vr.power, r.power, A.temp, A.height⟩, ⟨Vr.level, r.level, (one n), A.weight⟩] : List LookV) (Hr _ hS.below) (sl_nil kSpan (fun _ => True) _) Tryz.call114 (fun W' hb _ => rotor_rt1 _ _ (hS.cells (i := 0) rfl _ hb) (hS.cell0 (i := 1) rfl _ hb) (hr.move (keep_of (hS.below.trans (hb.mono hS.below.size))))) (fun hrok x hx => by
   have hRp := rot_p hrok
   have hr' := Hr _ hS.below
   simp only [List.mem_cons, List.not_mem_nil, or_false] at hx
   rcases hx with rfl | rfl
   · exact ⟨hr'.power, hRp.power.1⟩
   · exact ⟨hr'.level, hRp.level.1⟩)) Tryz.call77 hS rfl rfl rfl fun v W a hR hB hlt hS => ?_
 rw [show errC r A (([] : List Span).all Span.ok && ([⟨Vr.power, r.power, A.temp, A.height⟩, ⟨Vr.level, r.level, (one n), A.weight⟩] : List LookV).all fun x => liesT x.t x.p x.q) = errC r A (onRate r A n) from errC_congr fun hrok => by
   have hRp := rot_p hrok
   simp only [onRate, onLevel, onHas, List.all_cons, List.all_nil, Bool.and_true, Bool.true_and]
   cases h : liesT r.level (one n) A.weight with
   | true => rw [one_lies hRp.level.1 h]; rfl
   | false => simp] at hR
 subst hR
 refine st_v hS rfl rfl (run_assign hS rfl) fun a hS => wl_nil ?_
 refine wpIn_seq ?_
 refine wpIn_region_lit ?_
 refine st_v hS rfl rfl (run_move hS rfl) fun a hS => st_v hS rfl rfl (run_bin hS rfl rfl rfl) fun a hS => wl_nil ?_
 refine st_cond hS rfl (fun hc1 => ?_) (fun hc1 => ?_)
 ·
  try simp only [ty] at hc1
  refine wpIn_seq ?_
  refine wpIn_region_lit ?_
  refine st_v hS rfl rfl (run_move hS rfl) fun a hS => st_v hS rfl rfl (run_assign hS rfl) fun a hS => st_v hS rfl rfl (run_assign hS rfl) fun a hS => wl_nil ?_
  refine wpIn_ret ?_
  repeat (first | refine q_ret ?_ | refine q_block_ret ?_)
  refine hS.done (res2 (fn := Tryz.f40) (r1 := .tmp 6) (r2 := .tmp 7) rfl (rv_tmp hS rfl) (rv_tmp hS rfl)) ?_
  exact t2i (p := 0) (by rw [if_neg hc1]) rfl
 ·
  try simp only [ty] at hc1
  obtain ⟨hrok, haok, hon⟩ := errC_ok hc1
  obtain ⟨hA1, hA2, hA3, hA4⟩ := (airOk_iff A).1 haok
  have hRp := rot_p hrok
  refine wpIn_skip ?_
  refine wpIn_seq ?_
  refine wpIn_region_lit ?_
  refine st_v hS rfl rfl (run_load_all (i := 0) Tryz.isAgg118 Tryz.sizeOf118 hS rfl rfl rfl) fun a hS => st_v hS rfl rfl (run_load_one (i := 1) Tryz.isAgg3 hS rfl rfl rfl) fun a hS => st_call (mach_rate Vr r A (Hr _ hS.below) (by assumption) (by assumption) (by assumption)) Tryz.call107 hS rfl rfl rfl fun v W a hR hB hlt hS => ?_
  subst hR
  refine st_v hS rfl rfl (run_assign hS rfl) fun a hS => st_v hS rfl rfl (run_assign hS rfl) fun a hS => wl_nil ?_
  refine wpIn_ret ?_
  repeat (first | refine q_ret ?_ | refine q_block_ret ?_)
  refine hS.done (res2 (fn := Tryz.f40) (r1 := .tmp 6) (r2 := .tmp 7) rfl (rv_tmp hS rfl) (rv_tmp hS rfl)) ?_
  exact t2i (p := rateOf r A n) (by rw [if_pos hc1]) hc1.symm


set_option maxHeartbeats 2000000 in
set_option maxRecDepth 100000 in
theorem ref02_down  {n : Int} {d : Int} {w : World}  (hd : 0 < d) (hn : -1000000000 ≤ n ∧ n ≤ 1000000000) (hd2 : d ≤ 1000000000) : Ret Tryz.prog 183 [.int .i64 n, .int .i64 d] w (fun v _ => v = .int .i64 (fl n d)) := by
 refine ret_start (n := 15) Tryz.func183 rfl rfl rfl (fun a hS => ?_)
 refine wpIn_seq ?_
 refine wpIn_region_lit ?_
 refine st_v hS rfl rfl (run_assign hS rfl) fun a hS => wl_nil ?_
 refine wpIn_seq ?_
 refine wpIn_seq ?_
 refine wpIn_region_lit ?_
 refine st_v hS rfl rfl (run_move hS rfl) fun a hS => st_v hS rfl rfl (run_bin hS rfl rfl rfl) fun a hS => wl_nil ?_
 refine st_cond hS rfl (fun hc1 => ?_) (fun hc1 => ?_)
 ·
  try simp only [ty] at hc1
  refine wpIn_seq ?_
  refine wpIn_region_lit ?_
  refine st_v hS rfl rfl (run_move hS rfl) fun a hS => st_v hS rfl rfl (run_move hS rfl) fun a hS => st_v hS rfl rfl (run_div (t := (fl n d)) hS rfl rfl (by omega) (by exact fl_of_nonneg (by omega)) (by have := fl_abs hd hn (by omega); omega)) fun a hS => st_v hS rfl rfl (run_assign hS rfl) fun a hS => wl_nil ?_
  refine wpIn_ret ?_
  repeat (first | refine q_ret ?_ | refine q_block_ret ?_)
  refine hS.done (res1 (fn := Tryz.f183) (r1 := .tmp 4) rfl (rv_tmp hS rfl)) ?_
  rfl
 ·
  try simp only [ty] at hc1
  refine wpIn_skip ?_
  refine wpIn_seq ?_
  refine wpIn_region_lit ?_
  refine st_v hS rfl rfl (run_move hS rfl) fun a hS => st_v hS rfl rfl (run_negI (t := -(n)) hS rfl (by omega) (by omega) (by omega)) fun a hS => st_v hS rfl rfl (run_move hS rfl) fun a hS => st_call (ref02_up (by omega) (by omega)) Tryz.call221 hS rfl rfl rfl fun v W a hR hB hlt hS => ?_
  subst hR
  refine st_v hS rfl rfl (run_negI (t := (fl n d)) hS rfl (by have h := fl_neg (n := n) (d := d) (by omega) hd; rw [Int.tdiv_eq_ediv_of_nonneg (by omega)] at h; omega) (by have := fl_abs hd hn (by omega); omega) (by have := fl_abs hd hn (by omega); omega)) fun a hS => st_v hS rfl rfl (run_assign hS rfl) fun a hS => wl_nil ?_
  refine wpIn_ret ?_
  repeat (first | refine q_ret ?_ | refine q_block_ret ?_)
  refine hS.done (res1 (fn := Tryz.f183) (r1 := .tmp 4) rfl (rv_tmp hS rfl)) ?_
  rfl


set_option maxHeartbeats 2000000 in
set_option maxRecDepth 100000 in
theorem ref02_Rate  (Vr : RV) (r : Rot) (A : Air) {n : Int} {w : World} {Fr : Nat → Prop} (hr : RotR Fr w Vr r)  : Ret Tryz.prog 109 [.agg (rotC Vr r).toArray, .agg (airC A).toArray, .int .i64 n] w (fun v _ => v = .tuple #[.int .i64 (if errC r A (onRate r A n) = 0 then rateOf r A n else 0), .int .i64 (errC r A (onRate r A n))]) := by
 refine ret_start (n := 39) Tryz.func109 rfl rfl rfl (fun a hS => ?_)
 have Hr : ∀ W, Below w.heap.size w W → RotR Fr W Vr r := fun W hb => hr.move (keep_of hb)
 refine wpIn_seq ?_
 refine wpIn_region_lit ?_
 refine st_box_agg hS rfl rfl rfl fun W a b0 hS => st_box_agg hS rfl rfl rfl fun W a b1 hS => st_v hS rfl rfl (run_assign hS rfl) fun a hS => st_v hS rfl rfl (run_assign hS rfl) fun a hS => wl_nil ?_
 refine wpIn_seq ?_
 refine wpIn_region_lit ?_
 refine st_v hS rfl rfl (run_load_all (i := 1) Tryz.isAgg27 Tryz.sizeOf27 hS rfl rfl rfl) fun a hS => st_v hS rfl rfl (run_load_all (i := 0) Tryz.isAgg33 Tryz.sizeOf33 hS rfl rfl rfl) fun a hS => st_call (ref02_Has Vr r A (Hr _ hS.below)) Tryz.call180 hS rfl rfl rfl fun v W a hR hB hlt hS => ?_
 subst hR
 refine st_v hS rfl rfl (run_move hS rfl) fun a hS => st_v hS rfl rfl (run_extract hS rfl rfl) fun a hS => st_v hS rfl rfl (run_extract hS rfl rfl) fun a hS => st_alloc_agg Tryz.zeroValue31 hS rfl rfl fun W a b2 hS => st_store (i := 0) Tryz.sizeOf31 hS rfl rfl rfl rfl rfl rfl rfl rfl rfl fun W a hS => st_v hS rfl rfl (run_assign hS rfl) fun a hS => wl_nil ?_
 refine wpIn_seq ?_
 refine wpIn_seq ?_
 refine wpIn_region_lit ?_
 refine st_v hS rfl rfl (run_move hS rfl) fun a hS => st_v hS rfl rfl (run_bin hS rfl rfl rfl) fun a hS => wl_nil ?_
 refine st_cond hS rfl (fun hc1 => ?_) (fun hc1 => ?_)
 ·
  try simp only [ty] at hc1
  refine wpIn_seq ?_
  refine wpIn_region_lit ?_
  refine st_v hS rfl rfl (run_move hS rfl) fun a hS => st_v hS rfl rfl (run_assign hS rfl) fun a hS => st_v hS rfl rfl (run_assign hS rfl) fun a hS => wl_nil ?_
  refine wpIn_ret ?_
  repeat (first | refine q_ret ?_ | refine q_block_ret ?_)
  refine hS.done (res2 (fn := Tryz.f109) (r1 := .tmp 6) (r2 := .tmp 7) rfl (rv_tmp hS rfl) (rv_tmp hS rfl)) ?_
  have hE : errC r A (onRate r A n) = errC r A (onHas r A) := errC_andN hc1
  exact t2i (p := 0) (by rw [hE, if_neg hc1]) hE.symm
 ·
  try simp only [ty] at hc1
  
  refine wpIn_skip ?_
  refine wpIn_seq ?_
  refine anyh_start (by kernel_rfl) [true, true, true] hS fun W hS => ?_
  refine anyh_take (i := 0) [true, true, true] hS (fun _ h => h) rfl rfl (by kernel_rfl) (by kernel_rfl) (by kernel_rfl) rfl rfl (fun W' hS => run_load_all (i := 2) Tryz.isAgg27 Tryz.sizeOf27 hS rfl rfl rfl) fun a hS => ?_
  refine anyh_take (i := 1) [true, true, true] hS (fun _ h => h) rfl rfl (by kernel_rfl) (by kernel_rfl) (by kernel_rfl) rfl rfl (fun W' hS => run_load_all (i := 1) Tryz.isAgg33 Tryz.sizeOf33 hS rfl rfl rfl) fun a hS => ?_
  refine anyh_take (i := 2) [true, true, true] hS (fun _ h => h) rfl rfl (by kernel_rfl) (by kernel_rfl) (by kernel_rfl) rfl rfl (fun W' hS => run_move hS rfl) fun a hS => ?_
  refine anyh_go (rs := [3, 8]) (by kernel_rfl) (by simp) ⟨⟨_, rfl, ?_⟩, ⟨_, rfl, ?_⟩, trivial⟩
  ·
   refine st_call (ref02_at) Tryz.call182 hS rfl rfl rfl fun v W a hR hB hlt hS => ?_
   subst hR
   refine wl_nil ?_
   refine anyh_next [true, true, true] hS (fun _ h => h) rfl ?_
   refine anyh_go (rs := [4, 8]) (by kernel_rfl) (by simp) ⟨⟨_, rfl, ?_⟩, ⟨_, rfl, ?_⟩, trivial⟩
   ·
    refine st_call (ref02_Level Vr r A (one n) (Hr _ hS.below)) Tryz.call181 hS rfl rfl rfl fun v W a hR hB hlt hS => ?_
    subst hR
    refine wl_nil ?_
    refine anyh_next [true, true, true] hS (fun _ h => h) rfl ?_
    refine anyh_take (i := 5) [true, true, true] hS (fun _ h => h) rfl rfl (by kernel_rfl) (by kernel_rfl) (by kernel_rfl) rfl rfl (fun W' hS => run_move hS rfl) fun a hS => ?_
    refine anyh_take (i := 6) [true, true, true] hS (fun _ h => h) rfl rfl (by kernel_rfl) (by kernel_rfl) (by kernel_rfl) rfl rfl (fun W' hS => run_extract hS rfl rfl) fun a hS => ?_
    refine anyh_take (i := 7) [true, true, true] hS (fun _ h => h) rfl rfl (by kernel_rfl) (by kernel_rfl) (by kernel_rfl) rfl rfl (fun W' hS => run_extract hS rfl rfl) fun a hS => ?_
    refine anyh_go (rs := [8]) (by kernel_rfl) (by simp) ⟨⟨_, rfl, ?_⟩, trivial⟩
    refine st_alloc_agg Tryz.zeroValue31 hS rfl rfl fun W a b3 hS => wl_nil ?_
    refine anyh_next [false, true, true, true] hS (fun _ h => h) rfl ?_
    refine anyh_go (rs := [9]) (by kernel_rfl) (by simp) ⟨⟨_, rfl, ?_⟩, trivial⟩
    refine st_store (i := 0) Tryz.sizeOf31 hS rfl rfl rfl rfl rfl rfl rfl rfl rfl fun W a hS => wl_nil ?_
    refine anyh_next [false, true, true, true] hS (fun _ h => h) rfl ?_
    refine anyh_take (i := 10) [false, true, true, true] hS (fun _ h => h) rfl rfl (by kernel_rfl) (by kernel_rfl) (by kernel_rfl) rfl rfl (fun W' hS => run_assign hS rfl) fun a hS => ?_
    refine anyh_done (by kernel_rfl) ?_ _
    refine wpIn_seq ?_
    refine wpIn_seq ?_
    refine wpIn_region_lit ?_
    refine st_v hS rfl rfl (run_move hS rfl) fun a hS => st_v hS rfl rfl (run_bin hS rfl rfl rfl) fun a hS => wl_nil ?_
    refine st_cond hS rfl (fun hc2 => ?_) (fun hc2 => ?_)
    ·
     try simp only [ty] at hc2
     refine wpIn_seq ?_
     refine wpIn_region_lit ?_
     refine st_v hS rfl rfl (run_move hS rfl) fun a hS => st_v hS rfl rfl (run_assign hS rfl) fun a hS => st_v hS rfl rfl (run_assign hS rfl) fun a hS => wl_nil ?_
     refine wpIn_ret ?_
     repeat (first | refine q_ret ?_ | refine q_block_ret ?_)
     refine hS.done (res2 (fn := Tryz.f109) (r1 := .tmp 6) (r2 := .tmp 7) rfl (rv_tmp hS rfl) (rv_tmp hS rfl)) ?_
     have hE : errC r A (onRate r A n) = errC r A (onLevel r A (one n)) := errC_and hc1
     exact t2i (p := 0) (by rw [hE, if_neg hc2]) hE.symm
    ·
     try simp only [ty] at hc2
     obtain ⟨hrok, haok, hnh⟩ := errC_ok hc1
     obtain ⟨_, _, hnl⟩ := errC_ok hc2
     have hRp := rot_p hrok
     have hcl := hRp.climb
     have h1 := hasOf_in hrok haok hnh; have h2 := levelOf_in hrok haok hnl
     have e1 : (if errC r A (onHas r A) = 0 then hasOf r A else ⟨0, 0⟩) = hasOf r A := if_pos hc1
     have e2 : (if errC r A (onLevel r A (one n)) = 0 then levelOf r A (one n) else ⟨0, 0⟩) = levelOf r A (one n) := if_pos hc2
     rw [e1, e2] at hS
     refine wpIn_skip ?_
     refine wpIn_seq ?_
     refine wpIn_region_lit ?_
     refine st_v hS rfl rfl (run_fieldAddr fa31_0 hS rfl) fun a hS => st_v hS rfl rfl (run_load_one (i := 1) Tryz.isAgg3 hS rfl rfl rfl) fun a hS => st_v hS rfl rfl (run_fieldAddr fa31_1 hS rfl) fun a hS => st_v hS rfl rfl (run_load_one (i := 0) Tryz.isAgg3 hS rfl rfl rfl) fun a hS => st_v hS rfl rfl (run_sub (t := ((hasOf r A).lo - (levelOf r A (one n)).hi)) hS rfl rfl (by rfl) (by omega) (by omega)) fun a hS => st_v hS rfl rfl (run_fieldAddr fa27_8 hS rfl) fun a hS => st_v hS rfl rfl (run_load_one (i := 3) Tryz.isAgg3 hS rfl rfl rfl) fun a hS => st_call (ref02_down (by omega) (by omega) (by omega)) Tryz.call183 hS rfl rfl rfl fun v W a hR hB hlt hS => ?_
     subst hR
     refine st_v hS rfl rfl (run_assign hS rfl) fun a hS => st_v hS rfl rfl (run_assign hS rfl) fun a hS => wl_nil ?_
     have hS := hS.sub (κ' := [(0, _), (1, _), (2, _), (3, _), (4, _), (6, _), (7, _), (8, _), (9, _), (10, _)]) (Sub.cons rfl (Sub.cons rfl (Sub.cons rfl (Sub.cons rfl (Sub.cons rfl (Sub.cons rfl (Sub.cons rfl (Sub.cons rfl (Sub.cons rfl (Sub.cons rfl Sub.nil))))))))))
     refine wpIn_ret ?_
     repeat (first | refine q_ret ?_ | refine q_block_ret ?_)
     refine hS.done (res2 (fn := Tryz.f109) (r1 := .tmp 6) (r2 := .tmp 7) rfl (rv_tmp hS rfl) (rv_tmp hS rfl)) ?_
     have hE : errC r A (onRate r A n) = 0 := (errC_and hc1).trans hc2
     exact t2i (p := rateOf r A n) (by rw [hE]; rfl) hE.symm
   ·
    refine st_alloc_agg Tryz.zeroValue31 hS rfl rfl fun W a b4 hS => wl_nil ?_
    refine anyh_next [false, true, true, true] hS (fun _ h => h) rfl ?_
    refine anyh_go (rs := [4]) (by kernel_rfl) (by simp) ⟨⟨_, rfl, ?_⟩, trivial⟩
    refine st_call (ref02_Level Vr r A (one n) (Hr _ hS.below)) Tryz.call181 hS rfl rfl rfl fun v W a hR hB hlt hS => ?_
    subst hR
    refine wl_nil ?_
    refine anyh_next [false, true, true, true] hS (fun _ h => h) rfl ?_
    refine anyh_take (i := 5) [false, true, true, true] hS (fun _ h => h) rfl rfl (by kernel_rfl) (by kernel_rfl) (by kernel_rfl) rfl rfl (fun W' hS => run_move hS rfl) fun a hS => ?_
    refine anyh_take (i := 6) [false, true, true, true] hS (fun _ h => h) rfl rfl (by kernel_rfl) (by kernel_rfl) (by kernel_rfl) rfl rfl (fun W' hS => run_extract hS rfl rfl) fun a hS => ?_
    refine anyh_take (i := 7) [false, true, true, true] hS (fun _ h => h) rfl rfl (by kernel_rfl) (by kernel_rfl) (by kernel_rfl) rfl rfl (fun W' hS => run_extract hS rfl rfl) fun a hS => ?_
    refine anyh_go (rs := [9]) (by kernel_rfl) (by simp) ⟨⟨_, rfl, ?_⟩, trivial⟩
    refine st_store (i := 0) Tryz.sizeOf31 hS rfl rfl rfl rfl rfl rfl rfl rfl rfl fun W a hS => wl_nil ?_
    refine anyh_next [false, true, true, true] hS (fun _ h => h) rfl ?_
    refine anyh_take (i := 10) [false, true, true, true] hS (fun _ h => h) rfl rfl (by kernel_rfl) (by kernel_rfl) (by kernel_rfl) rfl rfl (fun W' hS => run_assign hS rfl) fun a hS => ?_
    refine anyh_done (by kernel_rfl) ?_ _
    refine wpIn_seq ?_
    refine wpIn_seq ?_
    refine wpIn_region_lit ?_
    refine st_v hS rfl rfl (run_move hS rfl) fun a hS => st_v hS rfl rfl (run_bin hS rfl rfl rfl) fun a hS => wl_nil ?_
    refine st_cond hS rfl (fun hc2 => ?_) (fun hc2 => ?_)
    ·
     try simp only [ty] at hc2
     refine wpIn_seq ?_
     refine wpIn_region_lit ?_
     refine st_v hS rfl rfl (run_move hS rfl) fun a hS => st_v hS rfl rfl (run_assign hS rfl) fun a hS => st_v hS rfl rfl (run_assign hS rfl) fun a hS => wl_nil ?_
     refine wpIn_ret ?_
     repeat (first | refine q_ret ?_ | refine q_block_ret ?_)
     refine hS.done (res2 (fn := Tryz.f109) (r1 := .tmp 6) (r2 := .tmp 7) rfl (rv_tmp hS rfl) (rv_tmp hS rfl)) ?_
     have hE : errC r A (onRate r A n) = errC r A (onLevel r A (one n)) := errC_and hc1
     exact t2i (p := 0) (by rw [hE, if_neg hc2]) hE.symm
    ·
     try simp only [ty] at hc2
     obtain ⟨hrok, haok, hnh⟩ := errC_ok hc1
     obtain ⟨_, _, hnl⟩ := errC_ok hc2
     have hRp := rot_p hrok
     have hcl := hRp.climb
     have h1 := hasOf_in hrok haok hnh; have h2 := levelOf_in hrok haok hnl
     have e1 : (if errC r A (onHas r A) = 0 then hasOf r A else ⟨0, 0⟩) = hasOf r A := if_pos hc1
     have e2 : (if errC r A (onLevel r A (one n)) = 0 then levelOf r A (one n) else ⟨0, 0⟩) = levelOf r A (one n) := if_pos hc2
     rw [e1, e2] at hS
     refine wpIn_skip ?_
     refine wpIn_seq ?_
     refine wpIn_region_lit ?_
     refine st_v hS rfl rfl (run_fieldAddr fa31_0 hS rfl) fun a hS => st_v hS rfl rfl (run_load_one (i := 1) Tryz.isAgg3 hS rfl rfl rfl) fun a hS => st_v hS rfl rfl (run_fieldAddr fa31_1 hS rfl) fun a hS => st_v hS rfl rfl (run_load_one (i := 0) Tryz.isAgg3 hS rfl rfl rfl) fun a hS => st_v hS rfl rfl (run_sub (t := ((hasOf r A).lo - (levelOf r A (one n)).hi)) hS rfl rfl (by rfl) (by omega) (by omega)) fun a hS => st_v hS rfl rfl (run_fieldAddr fa27_8 hS rfl) fun a hS => st_v hS rfl rfl (run_load_one (i := 3) Tryz.isAgg3 hS rfl rfl rfl) fun a hS => st_call (ref02_down (by omega) (by omega) (by omega)) Tryz.call183 hS rfl rfl rfl fun v W a hR hB hlt hS => ?_
     subst hR
     refine st_v hS rfl rfl (run_assign hS rfl) fun a hS => st_v hS rfl rfl (run_assign hS rfl) fun a hS => wl_nil ?_
     have hS := hS.sub (κ' := [(0, _), (1, _), (2, _), (3, _), (4, _), (6, _), (7, _), (8, _), (9, _), (10, _)]) (Sub.cons rfl (Sub.cons rfl (Sub.cons rfl (Sub.cons rfl (Sub.cons rfl (Sub.cons rfl (Sub.cons rfl (Sub.cons rfl (Sub.cons rfl (Sub.cons rfl Sub.nil))))))))))
     refine wpIn_ret ?_
     repeat (first | refine q_ret ?_ | refine q_block_ret ?_)
     refine hS.done (res2 (fn := Tryz.f109) (r1 := .tmp 6) (r2 := .tmp 7) rfl (rv_tmp hS rfl) (rv_tmp hS rfl)) ?_
     have hE : errC r A (onRate r A n) = 0 := (errC_and hc1).trans hc2
     exact t2i (p := rateOf r A n) (by rw [hE]; rfl) hE.symm
  ·
   refine st_alloc_agg Tryz.zeroValue31 hS rfl rfl fun W a b5 hS => wl_nil ?_
   refine anyh_next [false, true, true, true] hS (fun _ h => h) rfl ?_
   refine anyh_go (rs := [3]) (by kernel_rfl) (by simp) ⟨⟨_, rfl, ?_⟩, trivial⟩
   refine st_call (ref02_at) Tryz.call182 hS rfl rfl rfl fun v W a hR hB hlt hS => ?_
   subst hR
   refine wl_nil ?_
   refine anyh_next [false, true, true, true] hS (fun _ h => h) rfl ?_
   refine anyh_go (rs := [4]) (by kernel_rfl) (by simp) ⟨⟨_, rfl, ?_⟩, trivial⟩
   refine st_call (ref02_Level Vr r A (one n) (Hr _ hS.below)) Tryz.call181 hS rfl rfl rfl fun v W a hR hB hlt hS => ?_
   subst hR
   refine wl_nil ?_
   refine anyh_next [false, true, true, true] hS (fun _ h => h) rfl ?_
   refine anyh_take (i := 5) [false, true, true, true] hS (fun _ h => h) rfl rfl (by kernel_rfl) (by kernel_rfl) (by kernel_rfl) rfl rfl (fun W' hS => run_move hS rfl) fun a hS => ?_
   refine anyh_take (i := 6) [false, true, true, true] hS (fun _ h => h) rfl rfl (by kernel_rfl) (by kernel_rfl) (by kernel_rfl) rfl rfl (fun W' hS => run_extract hS rfl rfl) fun a hS => ?_
   refine anyh_take (i := 7) [false, true, true, true] hS (fun _ h => h) rfl rfl (by kernel_rfl) (by kernel_rfl) (by kernel_rfl) rfl rfl (fun W' hS => run_extract hS rfl rfl) fun a hS => ?_
   refine anyh_go (rs := [9]) (by kernel_rfl) (by simp) ⟨⟨_, rfl, ?_⟩, trivial⟩
   refine st_store (i := 0) Tryz.sizeOf31 hS rfl rfl rfl rfl rfl rfl rfl rfl rfl fun W a hS => wl_nil ?_
   refine anyh_next [false, true, true, true] hS (fun _ h => h) rfl ?_
   refine anyh_take (i := 10) [false, true, true, true] hS (fun _ h => h) rfl rfl (by kernel_rfl) (by kernel_rfl) (by kernel_rfl) rfl rfl (fun W' hS => run_assign hS rfl) fun a hS => ?_
   refine anyh_done (by kernel_rfl) ?_ _
   refine wpIn_seq ?_
   refine wpIn_seq ?_
   refine wpIn_region_lit ?_
   refine st_v hS rfl rfl (run_move hS rfl) fun a hS => st_v hS rfl rfl (run_bin hS rfl rfl rfl) fun a hS => wl_nil ?_
   refine st_cond hS rfl (fun hc2 => ?_) (fun hc2 => ?_)
   ·
    try simp only [ty] at hc2
    refine wpIn_seq ?_
    refine wpIn_region_lit ?_
    refine st_v hS rfl rfl (run_move hS rfl) fun a hS => st_v hS rfl rfl (run_assign hS rfl) fun a hS => st_v hS rfl rfl (run_assign hS rfl) fun a hS => wl_nil ?_
    refine wpIn_ret ?_
    repeat (first | refine q_ret ?_ | refine q_block_ret ?_)
    refine hS.done (res2 (fn := Tryz.f109) (r1 := .tmp 6) (r2 := .tmp 7) rfl (rv_tmp hS rfl) (rv_tmp hS rfl)) ?_
    have hE : errC r A (onRate r A n) = errC r A (onLevel r A (one n)) := errC_and hc1
    exact t2i (p := 0) (by rw [hE, if_neg hc2]) hE.symm
   ·
    try simp only [ty] at hc2
    obtain ⟨hrok, haok, hnh⟩ := errC_ok hc1
    obtain ⟨_, _, hnl⟩ := errC_ok hc2
    have hRp := rot_p hrok
    have hcl := hRp.climb
    have h1 := hasOf_in hrok haok hnh; have h2 := levelOf_in hrok haok hnl
    have e1 : (if errC r A (onHas r A) = 0 then hasOf r A else ⟨0, 0⟩) = hasOf r A := if_pos hc1
    have e2 : (if errC r A (onLevel r A (one n)) = 0 then levelOf r A (one n) else ⟨0, 0⟩) = levelOf r A (one n) := if_pos hc2
    rw [e1, e2] at hS
    refine wpIn_skip ?_
    refine wpIn_seq ?_
    refine wpIn_region_lit ?_
    refine st_v hS rfl rfl (run_fieldAddr fa31_0 hS rfl) fun a hS => st_v hS rfl rfl (run_load_one (i := 1) Tryz.isAgg3 hS rfl rfl rfl) fun a hS => st_v hS rfl rfl (run_fieldAddr fa31_1 hS rfl) fun a hS => st_v hS rfl rfl (run_load_one (i := 0) Tryz.isAgg3 hS rfl rfl rfl) fun a hS => st_v hS rfl rfl (run_sub (t := ((hasOf r A).lo - (levelOf r A (one n)).hi)) hS rfl rfl (by rfl) (by omega) (by omega)) fun a hS => st_v hS rfl rfl (run_fieldAddr fa27_8 hS rfl) fun a hS => st_v hS rfl rfl (run_load_one (i := 3) Tryz.isAgg3 hS rfl rfl rfl) fun a hS => st_call (ref02_down (by omega) (by omega) (by omega)) Tryz.call183 hS rfl rfl rfl fun v W a hR hB hlt hS => ?_
    subst hR
    refine st_v hS rfl rfl (run_assign hS rfl) fun a hS => st_v hS rfl rfl (run_assign hS rfl) fun a hS => wl_nil ?_
    have hS := hS.sub (κ' := [(0, _), (1, _), (2, _), (3, _), (4, _), (6, _), (7, _), (8, _), (9, _), (10, _)]) (Sub.cons rfl (Sub.cons rfl (Sub.cons rfl (Sub.cons rfl (Sub.cons rfl (Sub.cons rfl (Sub.cons rfl (Sub.cons rfl (Sub.cons rfl (Sub.cons rfl Sub.nil))))))))))
    refine wpIn_ret ?_
    repeat (first | refine q_ret ?_ | refine q_block_ret ?_)
    refine hS.done (res2 (fn := Tryz.f109) (r1 := .tmp 6) (r2 := .tmp 7) rfl (rv_tmp hS rfl) (rv_tmp hS rfl)) ?_
    have hE : errC r A (onRate r A n) = 0 := (errC_and hc1).trans hc2
    exact t2i (p := rateOf r A n) (by rw [hE]; rfl) hE.symm

end Go.Proofs.YtdnodlgebpnfoaaGreat
