/- The program's margins of power, walked. -/
import Derived.Test.YtdnodlgebpnfoaaGreatRotor
namespace Go.Proofs.YtdnodlgebpnfoaaGreat
open Go Go.RowKit Go.Shelf Sw
set_option linter.unusedVariables false
set_option linter.unusedSimpArgs false

set_option maxHeartbeats 2000000 in
set_option maxRecDepth 100000 in
theorem mach_hover  (Vr : RV) (r : Rot) (A : Air) {w : World} {Fr : Nat → Prop} (hr : RotR Fr w Vr r)  : Ret Tryz.prog 218 [.agg (machC Vr r A).toArray] w (fun v _ => v = .agg (lookC (⟨Vr.hover, r.hover, A.weight, A.temp⟩ : LookV)).toArray) := by
 refine ret_start (n := 13) Tryz.func218 rfl rfl rfl (fun a hS => ?_)
 have Hr : ∀ W, Below w.heap.size w W → RotR Fr W Vr r := fun W hb => hr.move (keep_of hb)
 refine wpIn_seq ?_
 refine wpIn_region_lit ?_
 refine st_box_agg hS rfl rfl rfl fun W a b0 hS => st_alloc_agg Tryz.zeroValue122 hS rfl rfl fun W a b1 hS => wl_nil ?_
 refine wpIn_seq ?_
 refine wpIn_region_lit ?_
 refine st_v hS rfl rfl (run_fieldAddr fa118_0 hS rfl) fun a hS => st_v hS rfl rfl (run_fieldAddr fa27_0 hS rfl) fun a hS => st_v hS rfl rfl (run_load_agg (i := 1) (vs := [_, _, _]) Tryz.isAgg25 Tryz.sizeOf25 hS rfl rfl rfl ⟨rfl, rfl, rfl, trivial⟩) fun a hS => st_v hS rfl rfl (run_fieldAddr fa118_1 hS rfl) fun a hS => st_v hS rfl rfl (run_fieldAddr fa33_0 hS rfl) fun a hS => st_v hS rfl rfl (run_load_agg (i := 1) (vs := [_, _]) Tryz.isAgg31 Tryz.sizeOf31 hS rfl rfl rfl ⟨rfl, rfl, trivial⟩) fun a hS => st_v hS rfl rfl (run_fieldAddr fa118_1 hS rfl) fun a hS => st_v hS rfl rfl (run_fieldAddr fa33_1 hS rfl) fun a hS => st_v hS rfl rfl (run_load_agg (i := 1) (vs := [_, _]) Tryz.isAgg31 Tryz.sizeOf31 hS rfl rfl rfl ⟨rfl, rfl, trivial⟩) fun a hS => st_v hS rfl rfl (run_build (pv := [(0, .agg #[.slice _ _ _, .slice _ _ _, .slice _ _ _]), (1, .agg #[.int .i64 _, .int .i64 _]), (2, .agg #[.int .i64 _, .int .i64 _])]) (fun W => bd122_0_1_2 _ _ _ _ _ _ _ _ _ _ _ _ _ W) hS rfl) fun a hS => st_store (cs' := [.slice Vr.hover.x.a r.hover.X.length Vr.hover.x.c, .slice Vr.hover.y.a r.hover.Y.length Vr.hover.y.c, .slice Vr.hover.v.a r.hover.V.length Vr.hover.v.c, .int .i64 A.weight.lo, .int .i64 A.weight.hi, .int .i64 A.temp.lo, .int .i64 A.temp.hi]) (i := 0) Tryz.sizeOf122 hS rfl rfl rfl rfl rfl rfl rfl rfl rfl fun W a hS => wl_nil ?_
 refine wpIn_ret ?_
 repeat (first | refine q_ret ?_ | refine q_block_ret ?_)
 refine hS.done (res1 (fn := Tryz.f218) (r1 := .cell 2 122) rfl (rv_agg (i := 0) Tryz.isAgg122 Tryz.sizeOf122 hS rfl rfl rfl)) ?_
 rfl


set_option maxHeartbeats 2000000 in
set_option maxRecDepth 100000 in
theorem mach_ground  (Vr : RV) (r : Rot) (A : Air) (p : Span) {w : World} {Fr : Nat → Prop} (hr : RotR Fr w Vr r)  : Ret Tryz.prog 219 [.agg (machC Vr r A).toArray, .agg (spanC p).toArray] w (fun v _ => v = .agg (lookC (⟨Vr.ground, r.ground, p, A.wind⟩ : LookV)).toArray) := by
 refine ret_start (n := 13) Tryz.func219 rfl rfl rfl (fun a hS => ?_)
 have Hr : ∀ W, Below w.heap.size w W → RotR Fr W Vr r := fun W hb => hr.move (keep_of hb)
 refine wpIn_seq ?_
 refine wpIn_region_lit ?_
 refine st_box_agg hS rfl rfl rfl fun W a b0 hS => st_box_agg hS rfl rfl rfl fun W a b1 hS => st_alloc_agg Tryz.zeroValue122 hS rfl rfl fun W a b2 hS => wl_nil ?_
 refine wpIn_seq ?_
 refine wpIn_region_lit ?_
 refine st_v hS rfl rfl (run_fieldAddr fa118_0 hS rfl) fun a hS => st_v hS rfl rfl (run_fieldAddr fa27_1 hS rfl) fun a hS => st_v hS rfl rfl (run_load_agg (i := 2) (vs := [_, _, _]) Tryz.isAgg25 Tryz.sizeOf25 hS rfl rfl rfl ⟨rfl, rfl, rfl, trivial⟩) fun a hS => st_v hS rfl rfl (run_load_all (i := 1) Tryz.isAgg31 Tryz.sizeOf31 hS rfl rfl rfl) fun a hS => st_v hS rfl rfl (run_fieldAddr fa118_1 hS rfl) fun a hS => st_v hS rfl rfl (run_fieldAddr fa33_3 hS rfl) fun a hS => st_v hS rfl rfl (run_load_agg (i := 2) (vs := [_, _]) Tryz.isAgg31 Tryz.sizeOf31 hS rfl rfl rfl ⟨rfl, rfl, trivial⟩) fun a hS => st_v hS rfl rfl (run_build (pv := [(0, .agg #[.slice _ _ _, .slice _ _ _, .slice _ _ _]), (1, .agg #[.int .i64 _, .int .i64 _]), (2, .agg #[.int .i64 _, .int .i64 _])]) (fun W => bd122_0_1_2 _ _ _ _ _ _ _ _ _ _ _ _ _ W) hS rfl) fun a hS => st_store (cs' := [.slice Vr.ground.x.a r.ground.X.length Vr.ground.x.c, .slice Vr.ground.y.a r.ground.Y.length Vr.ground.y.c, .slice Vr.ground.v.a r.ground.V.length Vr.ground.v.c, .int .i64 p.lo, .int .i64 p.hi, .int .i64 A.wind.lo, .int .i64 A.wind.hi]) (i := 0) Tryz.sizeOf122 hS rfl rfl rfl rfl rfl rfl rfl rfl rfl fun W a hS => wl_nil ?_
 refine wpIn_ret ?_
 repeat (first | refine q_ret ?_ | refine q_block_ret ?_)
 refine hS.done (res1 (fn := Tryz.f219) (r1 := .cell 4 122) rfl (rv_agg (i := 0) Tryz.isAgg122 Tryz.sizeOf122 hS rfl rfl rfl)) ?_
 rfl


set_option maxHeartbeats 2000000 in
set_option maxRecDepth 100000 in
theorem mach_power  (Vr : RV) (r : Rot) (A : Air) {w : World} {Fr : Nat → Prop} (hr : RotR Fr w Vr r)  : Ret Tryz.prog 94 [.agg (machC Vr r A).toArray] w (fun v _ => v = .agg (lookC (⟨Vr.power, r.power, A.temp, A.height⟩ : LookV)).toArray) := by
 refine ret_start (n := 13) Tryz.func94 rfl rfl rfl (fun a hS => ?_)
 have Hr : ∀ W, Below w.heap.size w W → RotR Fr W Vr r := fun W hb => hr.move (keep_of hb)
 refine wpIn_seq ?_
 refine wpIn_region_lit ?_
 refine st_box_agg hS rfl rfl rfl fun W a b0 hS => st_alloc_agg Tryz.zeroValue122 hS rfl rfl fun W a b1 hS => wl_nil ?_
 refine wpIn_seq ?_
 refine wpIn_region_lit ?_
 refine st_v hS rfl rfl (run_fieldAddr fa118_0 hS rfl) fun a hS => st_v hS rfl rfl (run_fieldAddr fa27_3 hS rfl) fun a hS => st_v hS rfl rfl (run_load_agg (i := 1) (vs := [_, _, _]) Tryz.isAgg25 Tryz.sizeOf25 hS rfl rfl rfl ⟨rfl, rfl, rfl, trivial⟩) fun a hS => st_v hS rfl rfl (run_fieldAddr fa118_1 hS rfl) fun a hS => st_v hS rfl rfl (run_fieldAddr fa33_1 hS rfl) fun a hS => st_v hS rfl rfl (run_load_agg (i := 1) (vs := [_, _]) Tryz.isAgg31 Tryz.sizeOf31 hS rfl rfl rfl ⟨rfl, rfl, trivial⟩) fun a hS => st_v hS rfl rfl (run_fieldAddr fa118_1 hS rfl) fun a hS => st_v hS rfl rfl (run_fieldAddr fa33_2 hS rfl) fun a hS => st_v hS rfl rfl (run_load_agg (i := 1) (vs := [_, _]) Tryz.isAgg31 Tryz.sizeOf31 hS rfl rfl rfl ⟨rfl, rfl, trivial⟩) fun a hS => st_v hS rfl rfl (run_build (pv := [(0, .agg #[.slice _ _ _, .slice _ _ _, .slice _ _ _]), (1, .agg #[.int .i64 _, .int .i64 _]), (2, .agg #[.int .i64 _, .int .i64 _])]) (fun W => bd122_0_1_2 _ _ _ _ _ _ _ _ _ _ _ _ _ W) hS rfl) fun a hS => st_store (cs' := [.slice Vr.power.x.a r.power.X.length Vr.power.x.c, .slice Vr.power.y.a r.power.Y.length Vr.power.y.c, .slice Vr.power.v.a r.power.V.length Vr.power.v.c, .int .i64 A.temp.lo, .int .i64 A.temp.hi, .int .i64 A.height.lo, .int .i64 A.height.hi]) (i := 0) Tryz.sizeOf122 hS rfl rfl rfl rfl rfl rfl rfl rfl rfl fun W a hS => wl_nil ?_
 refine wpIn_ret ?_
 repeat (first | refine q_ret ?_ | refine q_block_ret ?_)
 refine hS.done (res1 (fn := Tryz.f94) (r1 := .cell 2 122) rfl (rv_agg (i := 0) Tryz.isAgg122 Tryz.sizeOf122 hS rfl rfl rfl)) ?_
 rfl


set_option maxHeartbeats 2000000 in
set_option maxRecDepth 100000 in
theorem mach_level  (Vr : RV) (r : Rot) (A : Air) (p : Span) {w : World} {Fr : Nat → Prop} (hr : RotR Fr w Vr r)  : Ret Tryz.prog 115 [.agg (machC Vr r A).toArray, .agg (spanC p).toArray] w (fun v _ => v = .agg (lookC (⟨Vr.level, r.level, p, A.weight⟩ : LookV)).toArray) := by
 refine ret_start (n := 13) Tryz.func115 rfl rfl rfl (fun a hS => ?_)
 have Hr : ∀ W, Below w.heap.size w W → RotR Fr W Vr r := fun W hb => hr.move (keep_of hb)
 refine wpIn_seq ?_
 refine wpIn_region_lit ?_
 refine st_box_agg hS rfl rfl rfl fun W a b0 hS => st_box_agg hS rfl rfl rfl fun W a b1 hS => st_alloc_agg Tryz.zeroValue122 hS rfl rfl fun W a b2 hS => wl_nil ?_
 refine wpIn_seq ?_
 refine wpIn_region_lit ?_
 refine st_v hS rfl rfl (run_fieldAddr fa118_0 hS rfl) fun a hS => st_v hS rfl rfl (run_fieldAddr fa27_2 hS rfl) fun a hS => st_v hS rfl rfl (run_load_agg (i := 2) (vs := [_, _, _]) Tryz.isAgg25 Tryz.sizeOf25 hS rfl rfl rfl ⟨rfl, rfl, rfl, trivial⟩) fun a hS => st_v hS rfl rfl (run_load_all (i := 1) Tryz.isAgg31 Tryz.sizeOf31 hS rfl rfl rfl) fun a hS => st_v hS rfl rfl (run_fieldAddr fa118_1 hS rfl) fun a hS => st_v hS rfl rfl (run_fieldAddr fa33_0 hS rfl) fun a hS => st_v hS rfl rfl (run_load_agg (i := 2) (vs := [_, _]) Tryz.isAgg31 Tryz.sizeOf31 hS rfl rfl rfl ⟨rfl, rfl, trivial⟩) fun a hS => st_v hS rfl rfl (run_build (pv := [(0, .agg #[.slice _ _ _, .slice _ _ _, .slice _ _ _]), (1, .agg #[.int .i64 _, .int .i64 _]), (2, .agg #[.int .i64 _, .int .i64 _])]) (fun W => bd122_0_1_2 _ _ _ _ _ _ _ _ _ _ _ _ _ W) hS rfl) fun a hS => st_store (cs' := [.slice Vr.level.x.a r.level.X.length Vr.level.x.c, .slice Vr.level.y.a r.level.Y.length Vr.level.y.c, .slice Vr.level.v.a r.level.V.length Vr.level.v.c, .int .i64 p.lo, .int .i64 p.hi, .int .i64 A.weight.lo, .int .i64 A.weight.hi]) (i := 0) Tryz.sizeOf122 hS rfl rfl rfl rfl rfl rfl rfl rfl rfl fun W a hS => wl_nil ?_
 refine wpIn_ret ?_
 repeat (first | refine q_ret ?_ | refine q_block_ret ?_)
 refine hS.done (res1 (fn := Tryz.f115) (r1 := .cell 4 122) rfl (rv_agg (i := 0) Tryz.isAgg122 Tryz.sizeOf122 hS rfl rfl rfl)) ?_
 rfl


set_option maxHeartbeats 2000000 in
set_option maxRecDepth 100000 in
theorem mach_never  (Vr : RV) (r : Rot) (A : Air) {w : World} {Fr : Nat → Prop} (hr : RotR Fr w Vr r)  : Ret Tryz.prog 111 [.agg (machC Vr r A).toArray] w (fun v _ => v = .agg (lookC (⟨Vr.never, r.never, A.weight, A.temp⟩ : LookV)).toArray) := by
 refine ret_start (n := 13) Tryz.func111 rfl rfl rfl (fun a hS => ?_)
 have Hr : ∀ W, Below w.heap.size w W → RotR Fr W Vr r := fun W hb => hr.move (keep_of hb)
 refine wpIn_seq ?_
 refine wpIn_region_lit ?_
 refine st_box_agg hS rfl rfl rfl fun W a b0 hS => st_alloc_agg Tryz.zeroValue122 hS rfl rfl fun W a b1 hS => wl_nil ?_
 refine wpIn_seq ?_
 refine wpIn_region_lit ?_
 refine st_v hS rfl rfl (run_fieldAddr fa118_0 hS rfl) fun a hS => st_v hS rfl rfl (run_fieldAddr fa27_4 hS rfl) fun a hS => st_v hS rfl rfl (run_load_agg (i := 1) (vs := [_, _, _]) Tryz.isAgg25 Tryz.sizeOf25 hS rfl rfl rfl ⟨rfl, rfl, rfl, trivial⟩) fun a hS => st_v hS rfl rfl (run_fieldAddr fa118_1 hS rfl) fun a hS => st_v hS rfl rfl (run_fieldAddr fa33_0 hS rfl) fun a hS => st_v hS rfl rfl (run_load_agg (i := 1) (vs := [_, _]) Tryz.isAgg31 Tryz.sizeOf31 hS rfl rfl rfl ⟨rfl, rfl, trivial⟩) fun a hS => st_v hS rfl rfl (run_fieldAddr fa118_1 hS rfl) fun a hS => st_v hS rfl rfl (run_fieldAddr fa33_1 hS rfl) fun a hS => st_v hS rfl rfl (run_load_agg (i := 1) (vs := [_, _]) Tryz.isAgg31 Tryz.sizeOf31 hS rfl rfl rfl ⟨rfl, rfl, trivial⟩) fun a hS => st_v hS rfl rfl (run_build (pv := [(0, .agg #[.slice _ _ _, .slice _ _ _, .slice _ _ _]), (1, .agg #[.int .i64 _, .int .i64 _]), (2, .agg #[.int .i64 _, .int .i64 _])]) (fun W => bd122_0_1_2 _ _ _ _ _ _ _ _ _ _ _ _ _ W) hS rfl) fun a hS => st_store (cs' := [.slice Vr.never.x.a r.never.X.length Vr.never.x.c, .slice Vr.never.y.a r.never.Y.length Vr.never.y.c, .slice Vr.never.v.a r.never.V.length Vr.never.v.c, .int .i64 A.weight.lo, .int .i64 A.weight.hi, .int .i64 A.temp.lo, .int .i64 A.temp.hi]) (i := 0) Tryz.sizeOf122 hS rfl rfl rfl rfl rfl rfl rfl rfl rfl fun W a hS => wl_nil ?_
 refine wpIn_ret ?_
 repeat (first | refine q_ret ?_ | refine q_block_ret ?_)
 refine hS.done (res1 (fn := Tryz.f111) (r1 := .cell 2 122) rfl (rv_agg (i := 0) Tryz.isAgg122 Tryz.sizeOf122 hS rfl rfl rfl)) ?_
 rfl


set_option maxHeartbeats 2000000 in
set_option maxRecDepth 100000 in
theorem mach_ring  (Vr : RV) (r : Rot) (A : Air) (p : Span) {w : World} {Fr : Nat → Prop} (hr : RotR Fr w Vr r)  : Ret Tryz.prog 79 [.agg (machC Vr r A).toArray, .agg (spanC p).toArray] w (fun v _ => v = .agg (lookC (⟨Vr.low, r.low, p, A.weight⟩ : LookV)).toArray) := by
 refine ret_start (n := 13) Tryz.func79 rfl rfl rfl (fun a hS => ?_)
 have Hr : ∀ W, Below w.heap.size w W → RotR Fr W Vr r := fun W hb => hr.move (keep_of hb)
 refine wpIn_seq ?_
 refine wpIn_region_lit ?_
 refine st_box_agg hS rfl rfl rfl fun W a b0 hS => st_box_agg hS rfl rfl rfl fun W a b1 hS => st_alloc_agg Tryz.zeroValue122 hS rfl rfl fun W a b2 hS => wl_nil ?_
 refine wpIn_seq ?_
 refine wpIn_region_lit ?_
 refine st_v hS rfl rfl (run_fieldAddr fa118_0 hS rfl) fun a hS => st_v hS rfl rfl (run_fieldAddr fa27_5 hS rfl) fun a hS => st_v hS rfl rfl (run_load_agg (i := 2) (vs := [_, _, _]) Tryz.isAgg25 Tryz.sizeOf25 hS rfl rfl rfl ⟨rfl, rfl, rfl, trivial⟩) fun a hS => st_v hS rfl rfl (run_load_all (i := 1) Tryz.isAgg31 Tryz.sizeOf31 hS rfl rfl rfl) fun a hS => st_v hS rfl rfl (run_fieldAddr fa118_1 hS rfl) fun a hS => st_v hS rfl rfl (run_fieldAddr fa33_0 hS rfl) fun a hS => st_v hS rfl rfl (run_load_agg (i := 2) (vs := [_, _]) Tryz.isAgg31 Tryz.sizeOf31 hS rfl rfl rfl ⟨rfl, rfl, trivial⟩) fun a hS => st_v hS rfl rfl (run_build (pv := [(0, .agg #[.slice _ _ _, .slice _ _ _, .slice _ _ _]), (1, .agg #[.int .i64 _, .int .i64 _]), (2, .agg #[.int .i64 _, .int .i64 _])]) (fun W => bd122_0_1_2 _ _ _ _ _ _ _ _ _ _ _ _ _ W) hS rfl) fun a hS => st_store (cs' := [.slice Vr.low.x.a r.low.X.length Vr.low.x.c, .slice Vr.low.y.a r.low.Y.length Vr.low.y.c, .slice Vr.low.v.a r.low.V.length Vr.low.v.c, .int .i64 p.lo, .int .i64 p.hi, .int .i64 A.weight.lo, .int .i64 A.weight.hi]) (i := 0) Tryz.sizeOf122 hS rfl rfl rfl rfl rfl rfl rfl rfl rfl fun W a hS => wl_nil ?_
 refine wpIn_ret ?_
 repeat (first | refine q_ret ?_ | refine q_block_ret ?_)
 refine hS.done (res1 (fn := Tryz.f79) (r1 := .cell 4 122) rfl (rv_agg (i := 0) Tryz.isAgg122 Tryz.sizeOf122 hS rfl rfl rfl)) ?_
 rfl


set_option maxHeartbeats 2000000 in
set_option maxRecDepth 100000 in
theorem mach_needs  (Vr : RV) (r : Rot) (A : Air) (p : Span) {w : World} {Fr : Nat → Prop} (hr : RotR Fr w Vr r) (hrok : rotOk r = true) (haok : airOk A = true) (hon : onNeeds r A p = true) : Ret Tryz.prog 220 [.agg (machC Vr r A).toArray, .agg (spanC p).toArray] w (fun v _ => v = .agg (spanC (needsOf r A p)).toArray) := by
 refine ret_start (n := 28) Tryz.func220 rfl rfl rfl (fun a hS => ?_)
 have Hr : ∀ W, Below w.heap.size w W → RotR Fr W Vr r := fun W hb => hr.move (keep_of hb)
 have hRp := rot_p hrok
 have hA := (airOk_iff A).1 haok
 have hn := hon
 simp only [onNeeds, Bool.and_eq_true] at hn
 have hin := needs_in hrok haok hon
 have p1 := prod_in hin.1.1 hin.1.2.1 hin.2.1 hin.2.2.1
 have p2 := prod_in hin.1.2.2.1 hin.1.2.2.2 hin.2.2.2.1 hin.2.2.2.2
 refine wpIn_seq ?_
 refine wpIn_region_lit ?_
 refine st_box_agg hS rfl rfl rfl fun W a b0 hS => st_box_agg hS rfl rfl rfl fun W a b1 hS => st_alloc_agg Tryz.zeroValue31 hS rfl rfl fun W a b2 hS => wl_nil ?_
 refine wpIn_seq ?_
 have hlt0 := fun B hB => hS.lt (b := B) hB
 refine st_mix (k := 9) (by kernel_rfl) (by kernel_rfl) hS rfl rfl ?_
 refine mx_v (fun a W hS hB => run_load_all (i := 2) Tryz.isAgg118 Tryz.sizeOf118 hS rfl rfl rfl) <| mx_call Tryz.call218 rfl (fun a W hS hB => mach_hover Vr r A (Hr _ hS.below)) <| mx_call Tryz.call95 rfl (fun a W hS hB => rotor_bound (⟨Vr.hover, r.hover, A.weight, A.temp⟩ : LookV) ((fun W hC => (Hr W hC).hover) _ hS.below) (by exact hRp.hover.1) (by exact hA.1) (by exact hA.2.1) (by exact hn.2.1)) <| mx_v (fun a W hS hB => run_load_all (i := 2) Tryz.isAgg118 Tryz.sizeOf118 hS rfl rfl rfl) <| mx_v (fun a W hS hB => run_load_all (i := 1) Tryz.isAgg31 Tryz.sizeOf31 hS rfl rfl rfl) <| mx_call Tryz.call219 rfl (fun a W hS hB => mach_ground Vr r A p (Hr _ hS.below)) <| mx_call Tryz.call95 rfl (fun a W hS hB => rotor_bound (⟨Vr.ground, r.ground, p, A.wind⟩ : LookV) ((fun W hC => (Hr W hC).ground) _ hS.below) (by exact hRp.ground.1) (by exact hn.1) (by exact hA.2.2.2) (by exact hn.2.2)) <| mx_alloc_agg Tryz.zeroValue31 <| mx_alloc_agg Tryz.zeroValue31 <| ?_
 refine mx_end fun a W bs us hS hB hL => ?_
 dsimp only [kall, ball, List.cons_append, List.nil_append] at hS
 generalize bs 1 = b3 at hS
 generalize bs 0 = b4 at hS
 refine st_store (i := 1) Tryz.sizeOf31 hS rfl rfl rfl rfl rfl rfl rfl rfl rfl fun W a hS => st_store (i := 0) Tryz.sizeOf31 hS rfl rfl rfl rfl rfl rfl rfl rfl rfl fun W a hS => wl_nil ?_
 refine wpIn_seq ?_
 refine wpIn_region_lit ?_
 refine st_v hS rfl rfl (run_fieldAddr fa31_0 hS rfl) fun a hS => st_v hS rfl rfl (run_load_one (i := 1) Tryz.isAgg3 hS rfl rfl rfl) fun a hS => st_v hS rfl rfl (run_fieldAddr fa31_0 hS rfl) fun a hS => st_v hS rfl rfl (run_load_one (i := 0) Tryz.isAgg3 hS rfl rfl rfl) fun a hS => st_v hS rfl rfl (run_mul (t := (((bnd r.hover A.weight A.temp)).lo) * (((bnd r.ground p A.wind)).lo)) hS rfl rfl (rfl) (by omega)) fun a hS => st_v hS rfl rfl (run_div (t := ((bnd r.hover A.weight A.temp).lo * (bnd r.ground p A.wind).lo / 100)) hS rfl rfl (by omega) (by exact Int.tdiv_eq_ediv_of_nonneg p1.1) (by omega)) fun a hS => st_v hS rfl rfl (run_fieldAddr fa31_1 hS rfl) fun a hS => st_v hS rfl rfl (run_load_one (i := 1) Tryz.isAgg3 hS rfl rfl rfl) fun a hS => st_v hS rfl rfl (run_fieldAddr fa31_1 hS rfl) fun a hS => st_v hS rfl rfl (run_load_one (i := 0) Tryz.isAgg3 hS rfl rfl rfl) fun a hS => st_v hS rfl rfl (run_mul (t := (((bnd r.hover A.weight A.temp)).hi) * (((bnd r.ground p A.wind)).hi)) hS rfl rfl (rfl) (by omega)) fun a hS => st_v hS rfl rfl (run_add (t := ((((bnd r.hover A.weight A.temp)).hi) * (((bnd r.ground p A.wind)).hi)) + 99) hS rfl rfl (rfl) (by omega) (by omega)) fun a hS => st_v hS rfl rfl (run_div (t := (((bnd r.hover A.weight A.temp).hi * (bnd r.ground p A.wind).hi + 99) / 100)) hS rfl rfl (by omega) (by exact Int.tdiv_eq_ediv_of_nonneg (by omega)) (by omega)) fun a hS => st_v hS rfl rfl (run_build (pv := [(0, .int .i64 _), (1, .int .i64 _)]) (fun W => bd31_0_1 _ _ W) hS rfl) fun a hS => st_store (i := 2) Tryz.sizeOf31 hS rfl rfl rfl rfl rfl rfl rfl rfl rfl fun W a hS => wl_nil ?_
 refine wpIn_ret ?_
 repeat (first | refine q_ret ?_ | refine q_block_ret ?_)
 refine hS.done (res1 (fn := Tryz.f220) (r1 := .cell 4 31) rfl (rv_agg (i := 2) Tryz.isAgg31 Tryz.sizeOf31 hS rfl rfl rfl)) ?_
 rfl


set_option maxHeartbeats 2000000 in
set_option maxRecDepth 100000 in
theorem mach_margin  (Vr : RV) (r : Rot) (A : Air) (p : Span) {w : World} {Fr : Nat → Prop} (hr : RotR Fr w Vr r) (hrok : rotOk r = true) (haok : airOk A = true) (hon : onMargin r A p = true) : Ret Tryz.prog 176 [.agg (machC Vr r A).toArray, .agg (spanC p).toArray] w (fun v _ => v = .int .i64 (marginOf r A p)) := by
 refine ret_start (n := 14) Tryz.func176 rfl rfl rfl (fun a hS => ?_)
 have Hr : ∀ W, Below w.heap.size w W → RotR Fr W Vr r := fun W hb => hr.move (keep_of hb)
 have hRp := rot_p hrok
 have hA := (airOk_iff A).1 haok
 have hn := hon
 simp only [onMargin, Bool.and_eq_true] at hn
 obtain ⟨hnn, hnh⟩ := hn
 have h1 := hasOf_in hrok haok hnh; have h2 := needsOf_in hrok haok hnn
 unfold hasOf at h1
 refine wpIn_seq ?_
 refine wpIn_region_lit ?_
 refine st_box_agg hS rfl rfl rfl fun W a b0 hS => st_box_agg hS rfl rfl rfl fun W a b1 hS => st_v hS rfl rfl (run_assign hS rfl) fun a hS => wl_nil ?_
 refine wpIn_seq ?_
 refine st_draw (by kernel_rfl) (by kernel_rfl) hS ?_
 refine qt_v hS rfl rfl (fun W hB hS => run_load_all (i := 1) Tryz.isAgg118 Tryz.sizeOf118 hS rfl rfl rfl) fun a hS => qt_call hS rfl rfl Tryz.call94 rfl (fun W hB hS => mach_power Vr r A (Hr _ hS.below)) fun a hS => qt_call hS rfl rfl Tryz.call95 rfl (fun W hB hS => rotor_bound (⟨Vr.power, r.power, A.temp, A.height⟩ : LookV) ((fun W hC => (Hr W hC).power) _ hS.below) (by exact hRp.power.1) (by exact hA.2.1) (by exact hA.2.2.1) (by exact hnh)) fun a hS => qt_v hS rfl rfl (fun W hB hS => run_field (fun W => fd31_0 _ _ W) hS rfl) fun a hS => qt_v hS rfl rfl (fun W hB hS => run_load_all (i := 1) Tryz.isAgg118 Tryz.sizeOf118 hS rfl rfl rfl) fun a hS => qt_v hS rfl rfl (fun W hB hS => run_load_all (i := 0) Tryz.isAgg31 Tryz.sizeOf31 hS rfl rfl rfl) fun a hS => qt_call hS rfl rfl Tryz.call220 rfl (fun W hB hS => mach_needs Vr r A p (Hr _ hS.below) (by assumption) (by assumption) (by assumption)) fun a hS => qt_v hS rfl rfl (fun W hB hS => run_field (fun W => fd31_1 _ _ W) hS rfl) fun a hS => qt_v hS rfl rfl (fun W hB hS => run_sub (t := (((bnd r.power A.temp A.height)).lo) - ((needsOf r A p).hi)) hS rfl rfl (rfl) (by omega) (by omega)) fun a hS => qt_v hS rfl rfl (fun W hB hS => run_assign hS rfl) fun a hS => qt_nil hS fun W hS => ?_
 refine wpIn_ret ?_
 repeat (first | refine q_ret ?_ | refine q_block_ret ?_)
 refine hS.done (res1 (fn := Tryz.f176) (r1 := .tmp 4) rfl (rv_tmp hS rfl)) ?_
 rfl


set_option maxHeartbeats 2000000 in
set_option maxRecDepth 100000 in
theorem rotor_cm1 {Vr : RV} {r : Rot} {A : Air} {p : Span} {Fr : Nat → Prop} (pc0 : Addr) (pc1 : Addr) {w : World} (hc0 : CellsAt w pc0 (machC Vr r A)) (hc1 : CellsAt w pc1 (spanC p)) (hrr : RotR Fr w Vr r) : Ret Tryz.prog 217 [.pointer (some pc0), .pointer (some pc1)] w (fun v W' => ∃ s : SV, v = .slice s.a (([⟨Vr.hover, r.hover, A.weight, A.temp⟩, ⟨Vr.ground, r.ground, p, A.wind⟩, ⟨Vr.power, r.power, A.temp, A.height⟩] : List LookV)).length s.c ∧ Sl kLook (fun k => w.heap.size ≤ k) W' s ([⟨Vr.hover, r.hover, A.weight, A.temp⟩, ⟨Vr.ground, r.ground, p, A.wind⟩, ⟨Vr.power, r.power, A.temp, A.height⟩] : List LookV)) := by
 refine ret_start (n := 11) Tryz.func217 rfl rfl rfl (fun a hS => ?_)
 have Hc0 : ∀ W, Below w.heap.size w W → CellsAt W pc0 (machC Vr r A) := fun W hb => hc0.at_ hb
 have Hc1 : ∀ W, Below w.heap.size w W → CellsAt W pc1 (spanC p) := fun W hb => hc1.at_ hb
 have Hr : ∀ W, Below w.heap.size w W → RotR Fr W Vr r := fun W hb => hrr.move (keep_of hb)
 refine wpIn_seq ?_
 refine wpIn_region_lit ?_
 refine st_v hS rfl rfl (run_assign hS rfl) fun a hS => wl_nil ?_
 refine wpIn_seq ?_
 have hlt0 := fun B hB => hS.lt (b := B) hB
 refine st_mix (k := 7) (by kernel_rfl) (by kernel_rfl) hS rfl rfl ?_
 refine mx_v (fun a W hS hB => run_load_ext Tryz.isAgg118 Tryz.sizeOf118 hS rfl rfl (Hc0 _ hS.below)) <| mx_call Tryz.call218 rfl (fun a W hS hB => mach_hover Vr r A (Hr _ hS.below)) <| mx_v (fun a W hS hB => run_load_ext Tryz.isAgg118 Tryz.sizeOf118 hS rfl rfl (Hc0 _ hS.below)) <| mx_v (fun a W hS hB => run_load_ext Tryz.isAgg31 Tryz.sizeOf31 hS rfl rfl (Hc1 _ hS.below)) <| mx_call Tryz.call219 rfl (fun a W hS hB => mach_ground Vr r A p (Hr _ hS.below)) <| mx_v (fun a W hS hB => run_load_ext Tryz.isAgg118 Tryz.sizeOf118 hS rfl rfl (Hc0 _ hS.below)) <| mx_call Tryz.call94 rfl (fun a W hS hB => mach_power Vr r A (Hr _ hS.below)) <| ?_
 refine mx_end fun a W bs us hS hB hL => ?_
 dsimp only [kall, ball, List.cons_append, List.nil_append] at hS
 refine st_buildSlice (pv := [(0, .agg #[.slice _ _ _, .slice _ _ _, .slice _ _ _, .int .i64 _, .int .i64 _, .int .i64 _, .int .i64 _]), (1, .agg #[.slice _ _ _, .slice _ _ _, .slice _ _ _, .int .i64 _, .int .i64 _, .int .i64 _, .int .i64 _]), (2, .agg #[.slice _ _ _, .slice _ _ _, .slice _ _ _, .int .i64 _, .int .i64 _, .int .i64 _, .int .i64 _])]) (fun W => bs120_3_0_1_2 _ _ _ _ _ _ _ _ _ _ _ _ _ _ _ _ _ _ _ _ _ _ _ _ _ _ _ _ _ _ _ _ _ _ _ _ _ _ _ W) hS rfl rfl rfl fun W a b0 hS => st_v hS rfl rfl (run_assign hS rfl) fun a hS => wl_nil ?_
 refine wpIn_ret ?_
 repeat (first | refine q_ret ?_ | refine q_block_ret ?_)
 refine hS.done (res1 (fn := Tryz.f217) (r1 := .tmp 2) rfl (rv_tmp hS rfl)) ?_
 exact ⟨⟨some ⟨b0, 0, none⟩, 3⟩, rfl, own_new (enc := lookC) (nn := 7) (bb := 104) (hb := by decide) (hl := fun _ => rfl) ([⟨Vr.hover, r.hover, A.weight, A.temp⟩, ⟨Vr.ground, r.ground, p, A.wind⟩, ⟨Vr.power, r.power, A.temp, A.height⟩] : List LookV) hS (i := 0) rfl rfl (Nat.le_of_ble_eq_true rfl)⟩


set_option maxHeartbeats 2000000 in
set_option maxRecDepth 100000 in
theorem rotor_checkMargin  (Vr : RV) (r : Rot) (A : Air) (p : Span) {w : World} {Fr : Nat → Prop} (hr : RotR Fr w Vr r)  : Ret Tryz.prog 175 [.agg (machC Vr r A).toArray, .agg (spanC p).toArray] w (fun v _ => v = .int .i64 (errC r A (onMargin r A p))) := by
 refine ret_start (n := 13) Tryz.func175 rfl rfl rfl (fun a hS => ?_)
 have Hr : ∀ W, Below w.heap.size w W → RotR Fr W Vr r := fun W hb => hr.move (keep_of hb)
 refine wpIn_seq ?_
 refine wpIn_region_lit ?_
 refine st_box_agg hS rfl rfl rfl fun W a b0 hS => st_box_agg hS rfl rfl rfl fun W a b1 hS => st_v hS rfl rfl (run_assign hS rfl) fun a hS => wl_nil ?_
 refine wpIn_seq ?_
 refine wpIn_region_lit ?_
 refine st_v hS rfl rfl (run_fieldAddr fa118_0 hS rfl) fun a hS => st_v hS rfl rfl (run_load_agg (i := 1) (vs := [_, _, _, _, _, _, _, _, _, _, _, _, _, _, _, _, _, _, _, _, _, _, _, _, _, _]) Tryz.isAgg27 Tryz.sizeOf27 hS rfl rfl rfl ⟨rfl, rfl, rfl, rfl, rfl, rfl, rfl, rfl, rfl, rfl, rfl, rfl, rfl, rfl, rfl, rfl, rfl, rfl, rfl, rfl, rfl, rfl, rfl, rfl, rfl, rfl, trivial⟩) fun a hS => st_v hS rfl rfl (run_fieldAddr fa118_1 hS rfl) fun a hS => st_v hS rfl rfl (run_load_agg (i := 1) (vs := [_, _, _, _, _, _, _, _]) Tryz.isAgg33 Tryz.sizeOf33 hS rfl rfl rfl ⟨rfl, rfl, rfl, rfl, rfl, rfl, rfl, rfl, trivial⟩) fun a hS => st_v hS rfl rfl (run_load_all (i := 0) Tryz.isAgg31 Tryz.sizeOf31 hS rfl rfl rfl) fun a hS => st_buildSlice (pv := [(0, .agg #[.int .i64 _, .int .i64 _])]) (fun W => bs61_1_0 _ _ W) hS rfl rfl rfl fun W a b2 hS => st_v hS rfl rfl (run_makeFunc hS rfl rfl) fun a hS => st_call (rotor_check Vr r A ⟨some ⟨b2, 0, none⟩, 1⟩ [p] 217 [.pointer (some ⟨b0, 0, none⟩), .pointer (some ⟨b1, 0, none⟩)] ([⟨Vr.hover, r.hover, A.weight, A.temp⟩, ⟨Vr.ground, r.ground, p, A.wind⟩, ⟨Vr.power, r.power, A.temp, A.height⟩] : List LookV) (Hr _ hS.below) (own_sl_of (dk := kSpan) (enc := spanC) (xs := [p]) (fun _ _ _ => rfl) hS (i := 0) rfl (Nat.le_of_ble_eq_true rfl)) Tryz.call217 (fun W' hb _ => rotor_cm1 _ _ (hS.cells (i := 2) rfl _ hb) (hS.cells (i := 1) rfl _ hb) (hr.move (keep_of (hS.below.trans (hb.mono hS.below.size))))) (fun hrok x hx => by
   have hRp := rot_p hrok
   have hr' := Hr _ hS.below
   simp only [List.mem_cons, List.not_mem_nil, or_false] at hx
   rcases hx with rfl | rfl | rfl
   · exact ⟨hr'.hover, hRp.hover.1⟩
   · exact ⟨hr'.ground, hRp.ground.1⟩
   · exact ⟨hr'.power, hRp.power.1⟩)) Tryz.call77 hS rfl rfl rfl fun v W a hR hB hlt hS => ?_
 rw [show (([p] : List Span).all Span.ok && ([⟨Vr.hover, r.hover, A.weight, A.temp⟩, ⟨Vr.ground, r.ground, p, A.wind⟩, ⟨Vr.power, r.power, A.temp, A.height⟩] : List LookV).all fun x => liesT x.t x.p x.q) = onMargin r A p from by simp [onMargin, onNeeds, onHas, Bool.and_assoc]] at hR
 subst hR
 refine st_v hS rfl rfl (run_assign hS rfl) fun a hS => wl_nil ?_
 refine wpIn_ret ?_
 repeat (first | refine q_ret ?_ | refine q_block_ret ?_)
 refine hS.done (res1 (fn := Tryz.f175) (r1 := .tmp 4) rfl (rv_tmp hS rfl)) ?_
 rfl


set_option maxHeartbeats 2000000 in
set_option maxRecDepth 100000 in
theorem rotor_Margin  (Vr : RV) (r : Rot) (A : Air) (p : Span) {w : World} {Fr : Nat → Prop} (hr : RotR Fr w Vr r)  : Ret Tryz.prog 101 [.agg (rotC Vr r).toArray, .agg (airC A).toArray, .agg (spanC p).toArray] w (fun v _ => v = .tuple #[.int .i64 (if errC r A (onMargin r A p) = 0 then marginOf r A p else 0), .int .i64 (errC r A (onMargin r A p))]) := by
 refine ret_start (n := 22) Tryz.func101 rfl rfl rfl (fun a hS => ?_)
 have Hr : ∀ W, Below w.heap.size w W → RotR Fr W Vr r := fun W hb => hr.move (keep_of hb)
 refine wpIn_seq ?_
 refine wpIn_region_lit ?_
 refine st_box_agg hS rfl rfl rfl fun W a b0 hS => st_box_agg hS rfl rfl rfl fun W a b1 hS => st_box_agg hS rfl rfl rfl fun W a b2 hS => st_v hS rfl rfl (run_assign hS rfl) fun a hS => st_v hS rfl rfl (run_assign hS rfl) fun a hS => wl_nil ?_
 refine wpIn_seq ?_
 refine wpIn_region_lit ?_
 refine st_v hS rfl rfl (run_load_all (i := 2) Tryz.isAgg27 Tryz.sizeOf27 hS rfl rfl rfl) fun a hS => st_v hS rfl rfl (run_load_all (i := 1) Tryz.isAgg33 Tryz.sizeOf33 hS rfl rfl rfl) fun a hS => st_v hS rfl rfl (run_build (pv := [(0, .agg #[.slice _ _ _, .slice _ _ _, .slice _ _ _, .slice _ _ _, .slice _ _ _, .slice _ _ _, .slice _ _ _, .slice _ _ _, .slice _ _ _, .slice _ _ _, .slice _ _ _, .slice _ _ _, .slice _ _ _, .slice _ _ _, .slice _ _ _, .slice _ _ _, .slice _ _ _, .slice _ _ _, .slice _ _ _, .slice _ _ _, .slice _ _ _, .slice _ _ _, .slice _ _ _, .slice _ _ _, .int .i64 _, .int .i64 _]), (1, .agg #[.int .i64 _, .int .i64 _, .int .i64 _, .int .i64 _, .int .i64 _, .int .i64 _, .int .i64 _, .int .i64 _])]) (fun W => bd118_0_1 _ _ _ _ _ _ _ _ _ _ _ _ _ _ _ _ _ _ _ _ _ _ _ _ _ _ _ _ _ _ _ _ _ _ _ _ _ _ _ _ _ _ _ _ _ _ _ _ _ _ _ _ _ _ _ _ _ _ _ _ _ _ _ _ _ _ _ _ _ _ _ _ _ _ _ _ _ _ _ _ _ _ W) hS rfl) fun a hS => st_alloc_agg Tryz.zeroValue118 hS rfl rfl fun W a b3 hS => st_store (cs' := [.slice Vr.hover.x.a r.hover.X.length Vr.hover.x.c, .slice Vr.hover.y.a r.hover.Y.length Vr.hover.y.c, .slice Vr.hover.v.a r.hover.V.length Vr.hover.v.c, .slice Vr.ground.x.a r.ground.X.length Vr.ground.x.c, .slice Vr.ground.y.a r.ground.Y.length Vr.ground.y.c, .slice Vr.ground.v.a r.ground.V.length Vr.ground.v.c, .slice Vr.level.x.a r.level.X.length Vr.level.x.c, .slice Vr.level.y.a r.level.Y.length Vr.level.y.c, .slice Vr.level.v.a r.level.V.length Vr.level.v.c, .slice Vr.power.x.a r.power.X.length Vr.power.x.c, .slice Vr.power.y.a r.power.Y.length Vr.power.y.c, .slice Vr.power.v.a r.power.V.length Vr.power.v.c, .slice Vr.never.x.a r.never.X.length Vr.never.x.c, .slice Vr.never.y.a r.never.Y.length Vr.never.y.c, .slice Vr.never.v.a r.never.V.length Vr.never.v.c, .slice Vr.low.x.a r.low.X.length Vr.low.x.c, .slice Vr.low.y.a r.low.Y.length Vr.low.y.c, .slice Vr.low.v.a r.low.V.length Vr.low.v.c, .slice Vr.high.x.a r.high.X.length Vr.high.x.c, .slice Vr.high.y.a r.high.Y.length Vr.high.y.c, .slice Vr.high.v.a r.high.V.length Vr.high.v.c, .slice Vr.glide.x.a r.glide.X.length Vr.glide.x.c, .slice Vr.glide.y.a r.glide.Y.length Vr.glide.y.c, .slice Vr.glide.v.a r.glide.V.length Vr.glide.v.c, .int .i64 r.climb, .int .i64 r.burn, .int .i64 A.weight.lo, .int .i64 A.weight.hi, .int .i64 A.temp.lo, .int .i64 A.temp.hi, .int .i64 A.height.lo, .int .i64 A.height.hi, .int .i64 A.wind.lo, .int .i64 A.wind.hi]) (i := 0) Tryz.sizeOf118 hS rfl rfl rfl rfl rfl rfl rfl rfl rfl fun W a hS => wl_nil ?_
 refine wpIn_seq ?_
 refine wpIn_seq ?_
 refine wpIn_region_lit ?_
 refine st_v hS rfl rfl (run_load_all (i := 0) Tryz.isAgg118 Tryz.sizeOf118 hS rfl rfl rfl) fun a hS => st_v hS rfl rfl (run_load_all (i := 1) Tryz.isAgg31 Tryz.sizeOf31 hS rfl rfl rfl) fun a hS => st_call (rotor_checkMargin Vr r A p (Hr _ hS.below)) Tryz.call175 hS rfl rfl rfl fun v W a hR hB hlt hS => ?_
 subst hR
 refine st_v hS rfl rfl (run_assign hS rfl) fun a hS => wl_nil ?_
 refine wpIn_seq ?_
 refine wpIn_region_lit ?_
 refine st_v hS rfl rfl (run_move hS rfl) fun a hS => st_v hS rfl rfl (run_bin hS rfl rfl rfl) fun a hS => wl_nil ?_
 refine st_cond hS rfl (fun hc1 => ?_) (fun hc1 => ?_)
 ·
  try simp only [ty] at hc1
  refine wpIn_seq ?_
  refine wpIn_region_lit ?_
  refine st_v hS rfl rfl (run_move hS rfl) fun a hS => st_v hS rfl rfl (run_assign hS rfl) fun a hS => st_v hS rfl rfl (run_assign hS rfl) fun a hS => wl_nil ?_
  refine wpIn_ret ?_
  repeat (first | refine q_ret ?_ | refine q_block_ret ?_)
  refine hS.done (res2 (fn := Tryz.f101) (r1 := .tmp 6) (r2 := .tmp 7) rfl (rv_tmp hS rfl) (rv_tmp hS rfl)) ?_
  rw [if_neg hc1]
 ·
  try simp only [ty] at hc1
  obtain ⟨hrok, haok, hon⟩ := errC_ok hc1
  refine wpIn_skip ?_
  refine wpIn_seq ?_
  refine wpIn_region_lit ?_
  refine st_v hS rfl rfl (run_load_all (i := 0) Tryz.isAgg118 Tryz.sizeOf118 hS rfl rfl rfl) fun a hS => st_v hS rfl rfl (run_load_all (i := 1) Tryz.isAgg31 Tryz.sizeOf31 hS rfl rfl rfl) fun a hS => st_call (mach_margin Vr r A p (Hr _ hS.below) (by assumption) (by assumption) (by assumption)) Tryz.call176 hS rfl rfl rfl fun v W a hR hB hlt hS => ?_
  subst hR
  refine st_v hS rfl rfl (run_assign hS rfl) fun a hS => st_v hS rfl rfl (run_assign hS rfl) fun a hS => wl_nil ?_
  refine wpIn_ret ?_
  repeat (first | refine q_ret ?_ | refine q_block_ret ?_)
  refine hS.done (res2 (fn := Tryz.f101) (r1 := .tmp 6) (r2 := .tmp 7) rfl (rv_tmp hS rfl) (rv_tmp hS rfl)) ?_
  rw [if_pos hc1, hc1]


set_option maxHeartbeats 4000000 in
set_option maxRecDepth 100000 in
theorem rotor_Heaviest  (Vr : RV) (r : Rot) (A : Air) (p : Span) {rs : Int} {w : World} {Fr : Nat → Prop} (hr : RotR Fr w Vr r)  : Ret Tryz.prog 102 [.agg (rotC Vr r).toArray, .agg (airC A).toArray, .agg (spanC p).toArray, .int .i64 rs] w (fun v _ => v = .tuple #[.int .i64 (if heavyE r A p rs = 0 then heavyOf r A p rs else 0), .int .i64 (heavyE r A p rs)]) := by
 refine ret_start (n := 58) Tryz.func102 rfl rfl rfl (fun a hS => ?_)
 have Hr : ∀ W, Below w.heap.size w W → RotR Fr W Vr r := fun W hb => hr.move (keep_of hb)
 refine wpIn_seq ?_
 refine wpIn_region_lit ?_
 refine st_box_agg hS rfl rfl rfl fun W a b0 hS => st_box_agg hS rfl rfl rfl fun W a b1 hS => st_box_agg hS rfl rfl rfl fun W a b2 hS => st_v hS rfl rfl (run_assign hS rfl) fun a hS => st_v hS rfl rfl (run_assign hS rfl) fun a hS => wl_nil ?_
 refine wpIn_seq ?_
 refine wpIn_region_lit ?_
 refine st_v hS rfl rfl (run_load_all (i := 2) Tryz.isAgg27 Tryz.sizeOf27 hS rfl rfl rfl) fun a hS => st_v hS rfl rfl (run_load_all (i := 1) Tryz.isAgg33 Tryz.sizeOf33 hS rfl rfl rfl) fun a hS => st_v hS rfl rfl (run_build (pv := [(0, .agg #[.slice _ _ _, .slice _ _ _, .slice _ _ _, .slice _ _ _, .slice _ _ _, .slice _ _ _, .slice _ _ _, .slice _ _ _, .slice _ _ _, .slice _ _ _, .slice _ _ _, .slice _ _ _, .slice _ _ _, .slice _ _ _, .slice _ _ _, .slice _ _ _, .slice _ _ _, .slice _ _ _, .slice _ _ _, .slice _ _ _, .slice _ _ _, .slice _ _ _, .slice _ _ _, .slice _ _ _, .int .i64 _, .int .i64 _]), (1, .agg #[.int .i64 _, .int .i64 _, .int .i64 _, .int .i64 _, .int .i64 _, .int .i64 _, .int .i64 _, .int .i64 _])]) (fun W => bd118_0_1 _ _ _ _ _ _ _ _ _ _ _ _ _ _ _ _ _ _ _ _ _ _ _ _ _ _ _ _ _ _ _ _ _ _ _ _ _ _ _ _ _ _ _ _ _ _ _ _ _ _ _ _ _ _ _ _ _ _ _ _ _ _ _ _ _ _ _ _ _ _ _ _ _ _ _ _ _ _ _ _ _ _ W) hS rfl) fun a hS => st_alloc_agg Tryz.zeroValue118 hS rfl rfl fun W a b3 hS => st_store (cs' := [.slice Vr.hover.x.a r.hover.X.length Vr.hover.x.c, .slice Vr.hover.y.a r.hover.Y.length Vr.hover.y.c, .slice Vr.hover.v.a r.hover.V.length Vr.hover.v.c, .slice Vr.ground.x.a r.ground.X.length Vr.ground.x.c, .slice Vr.ground.y.a r.ground.Y.length Vr.ground.y.c, .slice Vr.ground.v.a r.ground.V.length Vr.ground.v.c, .slice Vr.level.x.a r.level.X.length Vr.level.x.c, .slice Vr.level.y.a r.level.Y.length Vr.level.y.c, .slice Vr.level.v.a r.level.V.length Vr.level.v.c, .slice Vr.power.x.a r.power.X.length Vr.power.x.c, .slice Vr.power.y.a r.power.Y.length Vr.power.y.c, .slice Vr.power.v.a r.power.V.length Vr.power.v.c, .slice Vr.never.x.a r.never.X.length Vr.never.x.c, .slice Vr.never.y.a r.never.Y.length Vr.never.y.c, .slice Vr.never.v.a r.never.V.length Vr.never.v.c, .slice Vr.low.x.a r.low.X.length Vr.low.x.c, .slice Vr.low.y.a r.low.Y.length Vr.low.y.c, .slice Vr.low.v.a r.low.V.length Vr.low.v.c, .slice Vr.high.x.a r.high.X.length Vr.high.x.c, .slice Vr.high.y.a r.high.Y.length Vr.high.y.c, .slice Vr.high.v.a r.high.V.length Vr.high.v.c, .slice Vr.glide.x.a r.glide.X.length Vr.glide.x.c, .slice Vr.glide.y.a r.glide.Y.length Vr.glide.y.c, .slice Vr.glide.v.a r.glide.V.length Vr.glide.v.c, .int .i64 r.climb, .int .i64 r.burn, .int .i64 A.weight.lo, .int .i64 A.weight.hi, .int .i64 A.temp.lo, .int .i64 A.temp.hi, .int .i64 A.height.lo, .int .i64 A.height.hi, .int .i64 A.wind.lo, .int .i64 A.wind.hi]) (i := 0) Tryz.sizeOf118 hS rfl rfl rfl rfl rfl rfl rfl rfl rfl fun W a hS => wl_nil ?_
 refine wpIn_seq ?_
 refine wpIn_seq ?_
 refine wpIn_region_lit ?_
 refine st_v hS rfl rfl (run_load_all (i := 0) Tryz.isAgg118 Tryz.sizeOf118 hS rfl rfl rfl) fun a hS => st_v hS rfl rfl (run_load_all (i := 1) Tryz.isAgg31 Tryz.sizeOf31 hS rfl rfl rfl) fun a hS => st_call (rotor_checkMargin Vr r A p (Hr _ hS.below)) Tryz.call175 hS rfl rfl rfl fun v W a hR hB hlt hS => ?_
 subst hR
 refine st_v hS rfl rfl (run_assign hS rfl) fun a hS => wl_nil ?_
 refine wpIn_seq ?_
 refine wpIn_region_lit ?_
 refine st_v hS rfl rfl (run_move hS rfl) fun a hS => st_v hS rfl rfl (run_bin hS rfl rfl rfl) fun a hS => wl_nil ?_
 refine st_cond hS rfl (fun hc1 => ?_) (fun hc1 => ?_)
 ·
  try simp only [ty] at hc1
  refine wpIn_seq ?_
  refine wpIn_region_lit ?_
  refine st_v hS rfl rfl (run_move hS rfl) fun a hS => st_v hS rfl rfl (run_assign hS rfl) fun a hS => st_v hS rfl rfl (run_assign hS rfl) fun a hS => wl_nil ?_
  refine wpIn_ret ?_
  repeat (first | refine q_ret ?_ | refine q_block_ret ?_)
  refine hS.done (res2 (fn := Tryz.f102) (r1 := .tmp 8) (r2 := .tmp 9) rfl (rv_tmp hS rfl) (rv_tmp hS rfl)) ?_
  have h : heavyE r A p rs = errC r A (onMargin r A p) := by unfold heavyE; rw [if_neg hc1]
  rw [h, if_neg hc1]
 ·
  try simp only [ty] at hc1
  obtain ⟨hrok, haok, hon⟩ := errC_ok hc1
  have hA := (airOk_iff A).1 haok
  have hw := (Span.ok_iff _).1 hA.1
  refine wpIn_skip ?_
  refine wpIn_seq ?_
  refine st_draw (by kernel_rfl) (by kernel_rfl) hS ?_
  refine qt_v hS rfl rfl (fun W hB hS => run_fieldAddr fa33_0 hS rfl) fun a hS => qt_v hS rfl rfl (fun W hB hS => run_fieldAddr fa31_0 hS rfl) fun a hS => qt_v hS rfl rfl (fun W hB hS => run_load_one (i := 2) Tryz.isAgg3 hS rfl rfl rfl) fun a hS => qt_v hS rfl rfl (fun W hB hS => run_sub (t := A.weight.lo - 1) hS rfl rfl (rfl) (by omega) (by omega)) fun a hS => qt_v hS rfl rfl (fun W hB hS => run_fieldAddr fa33_0 hS rfl) fun a hS => qt_v hS rfl rfl (fun W hB hS => run_fieldAddr fa31_1 hS rfl) fun a hS => qt_v hS rfl rfl (fun W hB hS => run_load_one (i := 2) Tryz.isAgg3 hS rfl rfl rfl) fun a hS => qt_v hS rfl rfl (fun W hB hS => run_assign hS rfl) fun a hS => qt_v hS rfl rfl (fun W hB hS => run_assign hS rfl) fun a hS => qt_nil hS fun W hS => ?_
  refine wpIn_seq ?_
  refine wpIn_block ?_
  refine st_loop2 (α := Int × Int × Int) (fun z => [(12, .int .i64 z.1), (13, .int .i64 z.2.1)]) [(0, _), (1, _), (2, _), (3, _), (4, _), (5, _), (6, _), (8, _), (9, _), (10, _), (11, _)] (fun l z => setB (l) 0 (machC Vr r (upTo_ A z.2.2))) (fun z => A.weight.lo - 1 ≤ z.1 ∧ z.1 ≤ z.2.1 ∧ z.2.1 ≤ A.weight.hi ∧ (∀ w, A.weight.lo ≤ w → w ≤ z.1 → rs ≤ marginOf r (upTo_ A w) p) ∧ (∀ w, z.2.1 < w → w ≤ A.weight.hi → ¬ rs ≤ marginOf r (upTo_ A w) p)) (fun z => (z.2.1 - z.1).toNat) (⟨A.weight.lo - 1, A.weight.hi, A.weight.hi⟩) hS (Sub.cons rfl (Sub.cons rfl (Sub.cons rfl (Sub.cons rfl (Sub.cons rfl (Sub.cons rfl (Sub.cons rfl (Sub.cons rfl (Sub.cons rfl (Sub.cons rfl (Sub.cons rfl (Sub.cons rfl (Sub.cons rfl Sub.nil))))))))))))) rfl (⟨Int.le_refl _, by dsimp only; omega, Int.le_refl _, fun w h1 h2 => by dsimp only at h2; omega, fun w h1 h2 => by dsimp only at h1; omega⟩) (fun z W a hφ hS => ?_)
  obtain ⟨low, high, h⟩ := z
  dsimp only [setB, List.cons_append, List.nil_append, List.take] at hS hφ
  obtain ⟨hl1, hlh, hh1, hyes, hno⟩ := hφ
  refine wpIn_seq ?_
  refine wpIn_seq ?_
  refine wpIn_region_lit ?_
  refine st_v hS rfl rfl (run_move hS rfl) fun a hS => st_v hS rfl rfl (run_move hS rfl) fun a hS => st_v hS rfl rfl (run_bin hS rfl rfl rfl) fun a hS => wl_nil ?_
  refine st_cond hS rfl (fun hc2 => ?_) (fun hc2 => ?_)
  ·
   try simp only [ty] at hc2
   refine wpIn_skip ?_
   refine wpIn_block ?_
   refine wpIn_seq ?_
   refine wpIn_region_lit ?_
   refine st_v hS rfl rfl (run_move hS rfl) fun a hS => st_v hS rfl rfl (run_move hS rfl) fun a hS => st_v hS rfl rfl (run_move hS rfl) fun a hS => st_v hS rfl rfl (run_sub (t := high - low) hS rfl rfl (rfl) (by omega) (by omega)) fun a hS => st_v hS rfl rfl (run_div (t := ((high - low) / 2)) hS rfl rfl (by omega) (by exact Int.tdiv_eq_ediv_of_nonneg (by omega)) (by omega)) fun a hS => st_v hS rfl rfl (run_sub (t := high - (((high - low) / 2))) hS rfl rfl (rfl) (by omega) (by omega)) fun a hS => st_v hS rfl rfl (run_assign hS rfl) fun a hS => wl_nil ?_
   refine wpIn_seq ?_
   refine wpIn_region_lit ?_
   refine st_v hS rfl rfl (run_move hS rfl) fun a hS => st_v hS rfl rfl (run_fieldAddr fa118_1 hS rfl) fun a hS => st_v hS rfl rfl (run_fieldAddr fa33_0 hS rfl) fun a hS => st_v hS rfl rfl (run_fieldAddr fa31_1 hS rfl) fun a hS => st_store (cs' := [.slice Vr.hover.x.a r.hover.X.length Vr.hover.x.c, .slice Vr.hover.y.a r.hover.Y.length Vr.hover.y.c, .slice Vr.hover.v.a r.hover.V.length Vr.hover.v.c, .slice Vr.ground.x.a r.ground.X.length Vr.ground.x.c, .slice Vr.ground.y.a r.ground.Y.length Vr.ground.y.c, .slice Vr.ground.v.a r.ground.V.length Vr.ground.v.c, .slice Vr.level.x.a r.level.X.length Vr.level.x.c, .slice Vr.level.y.a r.level.Y.length Vr.level.y.c, .slice Vr.level.v.a r.level.V.length Vr.level.v.c, .slice Vr.power.x.a r.power.X.length Vr.power.x.c, .slice Vr.power.y.a r.power.Y.length Vr.power.y.c, .slice Vr.power.v.a r.power.V.length Vr.power.v.c, .slice Vr.never.x.a r.never.X.length Vr.never.x.c, .slice Vr.never.y.a r.never.Y.length Vr.never.y.c, .slice Vr.never.v.a r.never.V.length Vr.never.v.c, .slice Vr.low.x.a r.low.X.length Vr.low.x.c, .slice Vr.low.y.a r.low.Y.length Vr.low.y.c, .slice Vr.low.v.a r.low.V.length Vr.low.v.c, .slice Vr.high.x.a r.high.X.length Vr.high.x.c, .slice Vr.high.y.a r.high.Y.length Vr.high.y.c, .slice Vr.high.v.a r.high.V.length Vr.high.v.c, .slice Vr.glide.x.a r.glide.X.length Vr.glide.x.c, .slice Vr.glide.y.a r.glide.Y.length Vr.glide.y.c, .slice Vr.glide.v.a r.glide.V.length Vr.glide.v.c, .int .i64 r.climb, .int .i64 r.burn, .int .i64 ((((upTo_ A h)).weight).lo), .int .i64 (high - (((high - low) / 2))), .int .i64 ((((upTo_ A h)).temp).lo), .int .i64 ((((upTo_ A h)).temp).hi), .int .i64 ((((upTo_ A h)).height).lo), .int .i64 ((((upTo_ A h)).height).hi), .int .i64 ((((upTo_ A h)).wind).lo), .int .i64 ((((upTo_ A h)).wind).hi)]) (i := 0) Tryz.sizeOf3 hS rfl rfl rfl rfl rfl rfl rfl rfl rfl fun W a hS => wl_nil ?_
   refine wpIn_seq ?_
   refine wpIn_region_lit ?_
   refine st_v hS rfl rfl (run_load_all (i := 0) Tryz.isAgg118 Tryz.sizeOf118 hS rfl rfl rfl) fun a hS => st_v hS rfl rfl (run_load_all (i := 1) Tryz.isAgg31 Tryz.sizeOf31 hS rfl rfl rfl) fun a hS => st_call (mach_margin Vr r (upTo_ A (high - (high - low) / 2)) p (Hr _ hS.below) hrok (upTo_ok haok (by omega) (by omega)) (onMargin_upTo hon (by omega))) Tryz.call176 hS rfl rfl rfl fun v W a hR hB hlt hS => ?_
   subst hR
   refine st_v hS rfl rfl (run_move hS rfl) fun a hS => st_v hS rfl rfl (run_bin hS rfl rfl rfl) fun a hS => wl_nil ?_
   refine st_cond hS rfl (fun hc3 => ?_) (fun hc3 => ?_)
   ·
    try simp only [ty] at hc3
    refine wpIn_region_lit ?_
    refine st_v hS rfl rfl (run_move hS rfl) fun a hS => st_v hS rfl rfl (run_assign hS rfl) fun a hS => wl_nil ?_
    refine ⟨⟨(high - (high - low) / 2), high, (high - (high - low) / 2)⟩, ⟨⟨by dsimp only; omega, by dsimp only; omega, hh1, fun w h1 h2 => ?_, hno⟩, by dsimp only; omega⟩, (hS.sub (Sub.cons rfl (Sub.cons rfl (Sub.cons rfl (Sub.cons rfl (Sub.cons rfl (Sub.cons rfl (Sub.cons rfl (Sub.cons rfl (Sub.cons rfl (Sub.cons rfl (Sub.cons rfl (Sub.cons rfl (Sub.cons rfl Sub.nil))))))))))))))⟩
    have := margin_mono hrok haok hon (w := w) (w' := (high - (high - low) / 2)) h1 h2 (by omega)
    omega
   ·
    try simp only [ty] at hc3
    refine wpIn_region_lit ?_
    refine st_v hS rfl rfl (run_move hS rfl) fun a hS => st_v hS rfl rfl (run_sub (t := (high - (((high - low) / 2))) - 1) hS rfl rfl (rfl) (by omega) (by omega)) fun a hS => st_v hS rfl rfl (run_assign hS rfl) fun a hS => wl_nil ?_
    refine ⟨⟨low, (high - (high - low) / 2) - 1, (high - (high - low) / 2)⟩, ⟨⟨hl1, by dsimp only; omega, by dsimp only; omega, hyes, fun w h1 h2 => ?_⟩, by dsimp only; omega⟩, (hS.sub (Sub.cons rfl (Sub.cons rfl (Sub.cons rfl (Sub.cons rfl (Sub.cons rfl (Sub.cons rfl (Sub.cons rfl (Sub.cons rfl (Sub.cons rfl (Sub.cons rfl (Sub.cons rfl (Sub.cons rfl (Sub.cons rfl Sub.nil))))))))))))))⟩
    have := margin_mono hrok haok hon (w := (high - (high - low) / 2)) (w' := w) (by omega) (by dsimp only at h1; omega) h2
    omega
  ·
   try simp only [ty] at hc2
   
   refine wpIn_exit ?_
   refine wpIn_seq ?_
   refine wpIn_seq ?_
   refine wpIn_region_lit ?_
   refine st_v hS rfl rfl (run_move hS rfl) fun a hS => st_v hS rfl rfl (run_fieldAddr fa33_0 hS rfl) fun a hS => st_v hS rfl rfl (run_fieldAddr fa31_0 hS rfl) fun a hS => st_v hS rfl rfl (run_load_one (i := 2) Tryz.isAgg3 hS rfl rfl rfl) fun a hS => st_v hS rfl rfl (run_bin hS rfl rfl rfl) fun a hS => wl_nil ?_
   refine st_cond hS rfl (fun hc4 => ?_) (fun hc4 => ?_)
   ·
    try simp only [ty] at hc4
    refine wpIn_seq ?_
    refine wpIn_region_lit ?_
    refine st_v hS rfl rfl (run_assign hS rfl) fun a hS => st_v hS rfl rfl (run_assign hS rfl) fun a hS => wl_nil ?_
    refine wpIn_ret ?_
    repeat (first | refine q_ret ?_ | refine q_block_ret ?_)
    refine hS.done (res2 (fn := Tryz.f102) (r1 := .tmp 8) (r2 := .tmp 9) rfl (rv_tmp hS rfl) (rv_tmp hS rfl)) ?_
    have ht := heavy_eq (r := r) (p := p) (v := rs) (n := low) ⟨hl1, by omega, fun w h1 h2 => by simpa using hyes w h1 h2, fun w h1 h2 => by simpa using hno w (by omega) h2⟩ hA.1
    have h : heavyE r A p rs = 3 := by unfold heavyE; rw [if_pos hc1, ht, if_pos (by omega)]
    rw [h]; rfl
   ·
    try simp only [ty] at hc4
    refine wpIn_skip ?_
    refine wpIn_seq ?_
    refine wpIn_region_lit ?_
    refine st_v hS rfl rfl (run_move hS rfl) fun a hS => st_v hS rfl rfl (run_assign hS rfl) fun a hS => st_v hS rfl rfl (run_assign hS rfl) fun a hS => wl_nil ?_
    refine wpIn_ret ?_
    repeat (first | refine q_ret ?_ | refine q_block_ret ?_)
    refine hS.done (res2 (fn := Tryz.f102) (r1 := .tmp 8) (r2 := .tmp 9) rfl (rv_tmp hS rfl) (rv_tmp hS rfl)) ?_
    have ht := heavy_eq (r := r) (p := p) (v := rs) (n := low) ⟨hl1, by omega, fun w h1 h2 => by simpa using hyes w h1 h2, fun w h1 h2 => by simpa using hno w (by omega) h2⟩ hA.1
    have h : heavyE r A p rs = 0 := by unfold heavyE; rw [if_pos hc1, ht, if_neg (by omega)]
    rw [h, if_pos rfl, ht]

end Go.Proofs.YtdnodlgebpnfoaaGreat
