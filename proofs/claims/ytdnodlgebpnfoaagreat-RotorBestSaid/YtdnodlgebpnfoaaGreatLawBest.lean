/- The statement RotorBest, walked. -/
import Derived.Test.YtdnodlgebpnfoaaGreatRotor3
import Derived.Test.YtdnodlgebpnfoaaGreatEx
import Derived.Test.YtdnodlgebpnfoaaGreatBest
namespace Go.Proofs.YtdnodlgebpnfoaaGreat
open Go Go.RowKit Go.Shelf Sw
set_option linter.unusedVariables false
set_option linter.unusedSimpArgs false

theorem t3i {p q e p' q' e' : Int} (h1 : p = p') (h2 : q = q') (h3 : e = e') : Value.tuple #[.int .i64 p, .int .i64 q, .int .i64 e] = .tuple #[.int .i64 p', .int .i64 q', .int .i64 e'] := by subst h1 h2 h3; rfl


set_option maxHeartbeats 2000000 in
set_option maxRecDepth 100000 in
theorem mach_speeds  (Vr : RV) (r : Rot) (A : Air) {w : World} {Fr : Nat → Prop} (hr : RotR Fr w Vr r) (h2 : 2 ≤ r.level.X.length) (h3 : r.level.X.length ≤ 12) : Ret Tryz.prog 106 [.agg (machC Vr r A).toArray] w (fun v _ => v = .tuple #[.int .i64 (ix r.level.X 0), .int .i64 (lastOf r.level.X)]) := by
 refine ret_start (n := 22) Tryz.func106 rfl rfl rfl (fun a hS => ?_)
 have Hr : ∀ W, Below w.heap.size w W → RotR Fr W Vr r := fun W hb => hr.move (keep_of hb)
 refine wpIn_seq ?_
 refine wpIn_region_lit ?_
 refine st_box_agg hS rfl rfl rfl fun W a b0 hS => st_v hS rfl rfl (run_assign hS rfl) fun a hS => st_v hS rfl rfl (run_assign hS rfl) fun a hS => wl_nil ?_
 refine wpIn_seq ?_
 have hS := hS.sub (κ' := [(0, _), (1, _)]) (Sub.cons rfl (Sub.cons rfl Sub.nil))
 have hlt0 := fun B hB => hS.lt (b := B) hB
 refine st_mix (k := 20) (by kernel_rfl) (by kernel_rfl) hS rfl rfl ?_
 refine mx_v (fun a W hS hB => run_fieldAddr fa118_0 hS rfl) <| mx_v (fun a W hS hB => run_fieldAddr fa27_2 hS rfl) <| mx_v (fun a W hS hB => run_fieldAddr fa25_0 hS rfl) <| mx_v (fun a W hS hB => run_load_one (i := 0) Tryz.isAgg22 hS rfl rfl rfl) <| ?_
 obtain ⟨ad0, hA0, hL0⟩ := sl_int (fun W hC => ((fun W hC => (Hr W hC).level) W hC).1) (Below.refl _ _) (i := 0) (j := 0) (by omega) (by omega)
 refine mx_v (fun a W hS hB => run_indexAddr Tryz.underlying22 Tryz.sizeOf3 hS rfl rfl hA0 (by omega) (by omega)) <| mx_v (fun a W hS hB => run_load_cell Tryz.isAgg3 hS rfl (hL0 _ hS.below)) <| mx_v (fun a W hS hB => run_fieldAddr fa118_0 hS rfl) <| mx_v (fun a W hS hB => run_fieldAddr fa27_2 hS rfl) <| mx_v (fun a W hS hB => run_fieldAddr fa25_0 hS rfl) <| mx_v (fun a W hS hB => run_load_one (i := 0) Tryz.isAgg22 hS rfl rfl rfl) <| mx_v (fun a W hS hB => run_fieldAddr fa118_0 hS rfl) <| mx_v (fun a W hS hB => run_fieldAddr fa27_2 hS rfl) <| mx_v (fun a W hS hB => run_fieldAddr fa25_0 hS rfl) <| mx_v (fun a W hS hB => run_load_one (i := 0) Tryz.isAgg22 hS rfl rfl rfl) <| mx_v (fun a W hS hB => run_len_slice Tryz.underlying22 hS rfl) <| mx_v (fun a W hS hB => run_sub (t := ((r.level.X.length - 1 : Nat) : Int)) hS rfl rfl (by omega) (by omega) (by omega)) <| ?_
 obtain ⟨ad1, hA1, hL1⟩ := sl_int (fun W hC => ((fun W hC => (Hr W hC).level) W hC).1) (Below.refl _ _) (i := ((r.level.X.length - 1 : Nat) : Int)) (j := r.level.X.length - 1) (by omega) (by omega)
 refine mx_v (fun a W hS hB => run_indexAddr Tryz.underlying22 Tryz.sizeOf3 hS rfl rfl hA1 (by omega) (by omega)) <| mx_v (fun a W hS hB => run_load_cell Tryz.isAgg3 hS rfl (hL1 _ hS.below)) <| mx_v (fun a W hS hB => run_assign hS rfl) <| mx_v (fun a W hS hB => run_assign hS rfl) <| ?_
 refine mx_end fun a W bs us hS hB hL => ?_
 dsimp only [kall, ball, List.cons_append, List.nil_append] at hS
 refine wl_nil ?_
 refine wpIn_ret ?_
 repeat (first | refine q_ret ?_ | refine q_block_ret ?_)
 refine hS.done (res2 (fn := Tryz.f106) (r1 := .tmp 2) (r2 := .tmp 3) rfl (rv_tmp hS rfl) (rv_tmp hS rfl)) ?_
 rfl


set_option maxHeartbeats 4000000 in
set_option maxRecDepth 100000 in
theorem rotor_cs1 {Vr : RV} {r : Rot} {A : Air} {Fr : Nat → Prop} {ft : FuncId} {capt : List Value} {L : List LookV} (pc0 : Addr) (pc1 : Addr) {w : World} (hc0 : CellsAt w pc0 (machC Vr r A)) (hc1 : w.cell? pc1 = some (.func (.func ft) #[] capt.toArray)) (hrr : RotR Fr w Vr r) (hft : Enters Tryz.prog ft) (htab : ∀ W, Below w.heap.size w W → rotOk r = true → Ret Tryz.prog ft capt W (fun v W' => ∃ s : SV, v = .slice s.a L.length s.c ∧ Sl kLook (fun k => W.heap.size ≤ k) W' s L ∧ s.c = L.length)) (hrok : rotOk r = true) (hL5 : L.length ≤ 5) : Ret Tryz.prog 178 [.pointer (some pc0), .pointer (some pc1)] w (fun v W' => ∃ s : SV, v = .slice s.a ((L ++ [(⟨Vr.power, r.power, A.temp, A.height⟩ : LookV), (⟨Vr.level, r.level, (one (ix r.level.X 0)), A.weight⟩ : LookV)])).length s.c ∧ Sl kLook (fun k => w.heap.size ≤ k) W' s (L ++ [(⟨Vr.power, r.power, A.temp, A.height⟩ : LookV), (⟨Vr.level, r.level, (one (ix r.level.X 0)), A.weight⟩ : LookV)])) := by
 refine ret_start (n := 20) Tryz.func178 rfl rfl rfl (fun a hS => ?_)
 have Hc0 : ∀ W, Below w.heap.size w W → CellsAt W pc0 (machC Vr r A) := fun W hb => hc0.at_ hb
 have Hc1 : ∀ W, Below w.heap.size w W → W.cell? pc1 = some (.func (.func ft) #[] capt.toArray) := fun W hb => cell_at hc1 hb
 have Hr : ∀ W, Below w.heap.size w W → RotR Fr W Vr r := fun W hb => hrr.move (keep_of hb)
 have h2 := (tab_axes (rot_p hrok).level.1).1.two; have h3 := (tab_axes (rot_p hrok).level.1).1.most
 refine wpIn_seq ?_
 refine wpIn_region_lit ?_
 refine st_v hS rfl rfl (run_assign hS rfl) fun a hS => wl_nil ?_
 refine wpIn_seq ?_
 refine wpIn_region_lit ?_
 refine st_v hS rfl rfl (run_load_ext Tryz.isAgg118 Tryz.sizeOf118 hS rfl rfl (Hc0 _ hS.below)) fun a hS => st_call (mach_speeds Vr r A (Hr _ hS.below) (by assumption) (by assumption)) Tryz.call106 hS rfl rfl rfl fun v W a hR hB hlt hS => ?_
 subst hR
 refine st_v hS rfl rfl (run_move hS rfl) fun a hS => st_v hS rfl rfl (run_extract hS rfl rfl) fun a hS => st_v hS rfl rfl (run_extract hS rfl rfl) fun a hS => st_v hS rfl rfl (run_assign hS rfl) fun a hS => st_v hS rfl rfl (run_assign hS rfl) fun a hS => wl_nil ?_
 refine wpIn_seq ?_
 refine anyh_start (by kernel_rfl) [] hS fun W hS => ?_
 refine anyh_take (i := 0) [] hS (fun _ h => h) rfl rfl (by kernel_rfl) (by kernel_rfl) (by kernel_rfl) rfl rfl (fun W' hS => run_load_cell Tryz.isAgg124 hS rfl (Hc1 _ hS.below)) fun a hS => ?_
 refine anyh_take (i := 2) [] hS (fun _ h => h) rfl rfl (by kernel_rfl) (by kernel_rfl) (by kernel_rfl) rfl rfl (fun W' hS => run_load_ext Tryz.isAgg118 Tryz.sizeOf118 hS rfl rfl (Hc0 _ hS.below)) fun a hS => ?_
 refine anyh_take (i := 4) [] hS (fun _ h => h) rfl rfl (by kernel_rfl) (by kernel_rfl) (by kernel_rfl) rfl rfl (fun W' hS => run_load_ext Tryz.isAgg118 Tryz.sizeOf118 hS rfl rfl (Hc0 _ hS.below)) fun a hS => ?_
 refine anyh_take (i := 5) [] hS (fun _ h => h) rfl rfl (by kernel_rfl) (by kernel_rfl) (by kernel_rfl) rfl rfl (fun W' hS => run_move hS rfl) fun a hS => ?_
 refine anyh_go (rs := [1]) (by kernel_rfl) (by simp) ⟨⟨_, rfl, ?_⟩, trivial⟩
 refine st_callv hS rfl rfl (hft) (htab _ hS.below hrok) rfl rfl fun v W a hR hB hlt hS => ?_
 
 obtain ⟨s0, rfl, hs0, hq0⟩ := hR
 have hS := hS.moreSl hlt hs0
 refine wl_nil ?_
 refine anyh_next [] hS (fun _ h => h.1) rfl ?_
 refine anyh_go (rs := [3]) (by kernel_rfl) (by simp) ⟨⟨_, rfl, ?_⟩, trivial⟩
 refine st_call (mach_power Vr r A (Hr _ hS.below)) Tryz.call94 hS rfl rfl rfl fun v W a hR hB hlt hS => ?_
 subst hR
 refine wl_nil ?_
 refine anyh_next [] hS (fun _ h => h.1) rfl ?_
 refine anyh_go (rs := [6]) (by kernel_rfl) (by simp) ⟨⟨_, rfl, ?_⟩, trivial⟩
 refine st_call (rotor_one) Tryz.call80 hS rfl rfl rfl fun v W a hR hB hlt hS => ?_
 subst hR
 refine wl_nil ?_
 refine anyh_next [] hS (fun _ h => h.1) rfl ?_
 refine anyh_go (rs := [7]) (by kernel_rfl) (by simp) ⟨⟨_, rfl, ?_⟩, trivial⟩
 refine st_call (mach_level Vr r A (one (ix r.level.X 0)) (Hr _ hS.below)) Tryz.call115 hS rfl rfl rfl fun v W a hR hB hlt hS => ?_
 subst hR
 refine wl_nil ?_
 refine anyh_next [] hS (fun _ h => h.1) rfl ?_
 refine anyh_go (rs := [8]) (by kernel_rfl) (by simp) ⟨⟨_, rfl, ?_⟩, trivial⟩
 refine st_buildSlice (pv := [(0, .agg #[.slice _ _ _, .slice _ _ _, .slice _ _ _, .int .i64 _, .int .i64 _, .int .i64 _, .int .i64 _]), (1, .agg #[.slice _ _ _, .slice _ _ _, .slice _ _ _, .int .i64 _, .int .i64 _, .int .i64 _, .int .i64 _])]) (fun W => bs120_2_0_1 _ _ _ _ _ _ _ _ _ _ _ _ _ _ _ _ _ _ _ _ _ _ _ _ _ _ W) hS rfl rfl rfl fun W a b0 hS => wl_nil ?_
 refine anyh_next [false] hS (fun _ h => h.1) rfl ?_
 refine anyh_go (rs := [9]) (by kernel_rfl) (by simp) ⟨⟨_, rfl, ?_⟩, trivial⟩
 have hw1 := hS.below.size
 refine st_appG (ys := [(⟨Vr.power, r.power, A.temp, A.height⟩ : LookV), (⟨Vr.level, r.level, (one (ix r.level.X 0)), A.weight⟩ : LookV)]) rfl (by decide) Tryz.underlying120 (AI.of ai122) Tryz.underlying120 ((fun _ h => h) _ hS.now.2) hq0 (Nat.zero_lt_succ _) (by simp; omega) (by simp; omega) hS (i := 0) rfl rfl rfl rfl rfl rfl rfl fun v W a hR hB hlt hS => ?_
 
 obtain ⟨s1, rfl, hs1⟩ := hR
 have hS := hS.moreSl hlt hs1
 refine wl_nil ?_
 refine anyh_next [false] hS (fun _ h => h.1.1) rfl ?_
 refine anyh_take (i := 10) [false] hS (fun _ h => h.1.1) rfl rfl (by kernel_rfl) (by kernel_rfl) (by kernel_rfl) rfl rfl (fun W' hS => run_assign hS rfl) fun a hS => ?_
 refine anyh_done (by kernel_rfl) ?_ _
 refine wpIn_ret ?_
 repeat (first | refine q_ret ?_ | refine q_block_ret ?_)
 refine hS.done (res1 (fn := Tryz.f178) (r1 := .tmp 2) rfl (rv_tmp hS rfl)) ?_
 exact ⟨_, rfl, (hS.now.2).wide (fun k hk _ => Nat.le_trans (by assumption) hk) (fun _ _ => by decide)⟩


set_option maxHeartbeats 4000000 in
set_option maxRecDepth 100000 in
theorem rotor_checkSpeeds (Vr : RV) (r : Rot) (A : Air) (ft : FuncId) (capt : List Value) (L : List LookV) {w : World} {Fr FL : Nat → Prop} (hr : RotR Fr w Vr r) (hft : Enters Tryz.prog ft) (htab : ∀ W, Below w.heap.size w W → rotOk r = true → Ret Tryz.prog ft capt W (fun v W' => ∃ s : SV, v = .slice s.a L.length s.c ∧ Sl kLook (fun k => W.heap.size ≤ k) W' s L ∧ s.c = L.length)) (hL5 : L.length ≤ 5) (hL : rotOk r = true → ∀ x ∈ L, TabR FL w x.V x.t ∧ tabOk x.t = true) :
    Ret Tryz.prog 104 [.agg (machC Vr r A).toArray, .func (.func ft) #[] capt.toArray] w (fun v _ => v = .int .i64 (errC r A ((L.all fun x => liesT x.t x.p x.q) && onBest r A))) := by
 refine ret_start (n := 11) Tryz.func104 rfl rfl rfl (fun a hS => ?_)
 have Hr : ∀ W, Below w.heap.size w W → RotR Fr W Vr r := fun W hb => hr.move (keep_of hb)
 refine wpIn_seq ?_
 refine wpIn_region_lit ?_
 refine st_box_agg hS rfl rfl rfl fun W a b0 hS => st_box_one hS rfl rfl rfl rfl fun W a b1 hS => st_v hS rfl rfl (run_assign hS rfl) fun a hS => wl_nil ?_
 refine wpIn_seq ?_
 refine wpIn_region_lit ?_
 refine st_v hS rfl rfl (run_fieldAddr fa118_0 hS rfl) fun a hS => st_v hS rfl rfl (run_load_agg (i := 1) (vs := [_, _, _, _, _, _, _, _, _, _, _, _, _, _, _, _, _, _, _, _, _, _, _, _, _, _]) Tryz.isAgg27 Tryz.sizeOf27 hS rfl rfl rfl ⟨rfl, rfl, rfl, rfl, rfl, rfl, rfl, rfl, rfl, rfl, rfl, rfl, rfl, rfl, rfl, rfl, rfl, rfl, rfl, rfl, rfl, rfl, rfl, rfl, rfl, rfl, trivial⟩) fun a hS => st_v hS rfl rfl (run_fieldAddr fa118_1 hS rfl) fun a hS => st_v hS rfl rfl (run_load_agg (i := 1) (vs := [_, _, _, _, _, _, _, _]) Tryz.isAgg33 Tryz.sizeOf33 hS rfl rfl rfl ⟨rfl, rfl, rfl, rfl, rfl, rfl, rfl, rfl, trivial⟩) fun a hS => st_v hS rfl rfl (run_makeFunc hS rfl rfl) fun a hS => st_call (rotor_check (FL := fun _ => True) Vr r A (⟨none, 0⟩ : SV) [] 178 [.pointer (some ⟨b0, 0, none⟩), .pointer (some ⟨b1, 0, none⟩)] (L ++ [(⟨Vr.power, r.power, A.temp, A.height⟩ : LookV), (⟨Vr.level, r.level, (one (ix r.level.X 0)), A.weight⟩ : LookV)]) (Hr _ hS.below) (sl_nil kSpan (fun _ => True) _) Tryz.call178 (fun W' hb hrok => rotor_cs1 _ _ (hS.cells (i := 1) rfl _ hb) (hS.cell0 (i := 0) rfl _ hb) (hr.move (keep_of (hS.below.trans (hb.mono hS.below.size)))) hft (fun W hb' hrok => htab W ((hS.below.trans (hb.mono hS.below.size)).trans (hb'.mono ((hS.below.trans (hb.mono hS.below.size)).size))) hrok) hrok hL5) (fun hrok x hx => by
   have hRp := rot_p hrok
   have hr' := Hr _ hS.below
   rcases List.mem_append.1 hx with hx | hx
   · have h := hL hrok x hx
     exact ⟨(h.1.move (keep_of hS.below)).wide fun _ _ => trivial, h.2⟩
   · simp only [List.mem_cons, List.not_mem_nil, or_false] at hx
     rcases hx with rfl | rfl
     · exact ⟨hr'.power.wide fun _ _ => trivial, hRp.power.1⟩
     · exact ⟨hr'.level.wide fun _ _ => trivial, hRp.level.1⟩)) Tryz.call77 hS rfl rfl rfl fun v W a hR hB hlt hS => ?_
 rw [show errC r A (([] : List Span).all Span.ok && (L ++ [(⟨Vr.power, r.power, A.temp, A.height⟩ : LookV), (⟨Vr.level, r.level, (one (ix r.level.X 0)), A.weight⟩ : LookV)]).all fun x => liesT x.t x.p x.q) = errC r A ((L.all fun x => liesT x.t x.p x.q) && onBest r A) from errC_congr fun hrok => by
   rw [List.all_append]; simp [onBest, onHas, first_lies (rot_p hrok).level.1]] at hR
 subst hR
 refine st_v hS rfl rfl (run_assign hS rfl) fun a hS => wl_nil ?_
 refine wpIn_ret ?_
 repeat (first | refine q_ret ?_ | refine q_block_ret ?_)
 refine hS.done (res1 (fn := Tryz.f104) (r1 := .tmp 4) rfl (rv_tmp hS rfl)) ?_
 rfl


set_option maxHeartbeats 2000000 in
set_option maxRecDepth 100000 in
theorem rotor_bs1 {w : World} : Ret Tryz.prog 105 [] w (fun v W' => ∃ s : SV, v = .slice s.a ([] : List LookV).length s.c ∧ Sl kLook (fun k => w.heap.size ≤ k) W' s ([] : List LookV) ∧ s.c = ([] : List LookV).length) := by
 refine ret_start (n := 1) Tryz.func105 rfl rfl rfl (fun a hS => ?_)
 refine wpIn_seq ?_
 refine wpIn_region_lit ?_
 refine st_v hS rfl rfl (run_assign hS rfl) fun a hS => wl_nil ?_
 refine wpIn_seq ?_
 refine wpIn_region_lit ?_
 refine st_v hS rfl rfl (run_assign hS rfl) fun a hS => wl_nil ?_
 refine wpIn_ret ?_
 repeat (first | refine q_ret ?_ | refine q_block_ret ?_)
 refine hS.done (res1 (fn := Tryz.f105) (r1 := .tmp 0) rfl (rv_tmp hS rfl)) ?_
 exact ⟨⟨none, 0⟩, rfl, sl_nil _ _ _, rfl⟩


set_option maxHeartbeats 2000000 in
set_option maxRecDepth 100000 in
theorem rotor_fs1 (Vr : RV) (r : Rot) (A : Air) (pc0 : Addr) {w : World} {Fr : Nat → Prop} (hc0 : CellsAt w pc0 (machC Vr r A)) (hrr : RotR Fr w Vr r) : Ret Tryz.prog 110 [.pointer (some pc0)] w (fun v W' => ∃ s : SV, v = .slice s.a ([(⟨Vr.never, r.never, A.weight, A.temp⟩ : LookV)] : List LookV).length s.c ∧ Sl kLook (fun k => w.heap.size ≤ k) W' s ([(⟨Vr.never, r.never, A.weight, A.temp⟩ : LookV)] : List LookV) ∧ s.c = ([(⟨Vr.never, r.never, A.weight, A.temp⟩ : LookV)] : List LookV).length) := by
 refine ret_start (n := 5) Tryz.func110 rfl rfl rfl (fun a hS => ?_)
 have Hr : ∀ W, Below w.heap.size w W → RotR Fr W Vr r := fun W hb => hrr.move (keep_of hb)
 have Hc0 : ∀ W, Below w.heap.size w W → CellsAt W pc0 (machC Vr r A) := fun W hb => hc0.at_ hb
 refine wpIn_seq ?_
 refine wpIn_region_lit ?_
 refine st_v hS rfl rfl (run_assign hS rfl) fun a hS => wl_nil ?_
 refine wpIn_seq ?_
 refine wpIn_region_lit ?_
 refine st_v hS rfl rfl (run_load_ext Tryz.isAgg118 Tryz.sizeOf118 hS rfl rfl (Hc0 _ hS.below)) fun a hS => st_call (mach_never Vr r A (Hr _ hS.below)) Tryz.call111 hS rfl rfl rfl fun v W a hR hB hlt hS => ?_
 subst hR
 refine st_buildSlice (pv := [(0, .agg #[.slice _ _ _, .slice _ _ _, .slice _ _ _, .int .i64 _, .int .i64 _, .int .i64 _, .int .i64 _])]) (fun W => bs120_1_0 _ _ _ _ _ _ _ _ _ _ _ _ _ W) hS rfl rfl rfl fun W a b0 hS => st_v hS rfl rfl (run_assign hS rfl) fun a hS => wl_nil ?_
 refine wpIn_ret ?_
 repeat (first | refine q_ret ?_ | refine q_block_ret ?_)
 refine hS.done (res1 (fn := Tryz.f110) (r1 := .tmp 1) rfl (rv_tmp hS rfl)) ?_
 exact ⟨⟨some ⟨b0, 0, none⟩, 1⟩, rfl, own_new (enc := lookC) (nn := 7) (bb := 104) (hb := by decide) (hl := fun _ => rfl) ([(⟨Vr.never, r.never, A.weight, A.temp⟩ : LookV)] : List LookV) hS (i := 0) rfl rfl (Nat.le_of_ble_eq_true rfl), rfl⟩


set_option maxHeartbeats 8000000 in
set_option maxRecDepth 100000 in
theorem rotor_Best  (Vr : RV) (r : Rot) (A : Air) {w : World} {Fr : Nat → Prop} (hr : RotR Fr w Vr r)  : Ret Tryz.prog 36 [.agg (rotC Vr r).toArray, .agg (airC A).toArray] w (fun v _ => v = .tuple #[.int .i64 (bestS r A), .int .i64 (bestR r A), .int .i64 (bestE r A)]) := by
 refine ret_start (n := 47) Tryz.func36 rfl rfl rfl (fun a hS => ?_)
 have Hr : ∀ W, Below w.heap.size w W → RotR Fr W Vr r := fun W hb => hr.move (keep_of hb)
 refine wpIn_seq ?_
 refine wpIn_region_lit ?_
 refine st_box_agg hS rfl rfl rfl fun W a b0 hS => st_box_agg hS rfl rfl rfl fun W a b1 hS => st_v hS rfl rfl (run_assign hS rfl) fun a hS => st_v hS rfl rfl (run_assign hS rfl) fun a hS => st_v hS rfl rfl (run_assign hS rfl) fun a hS => wl_nil ?_
 refine wpIn_seq ?_
 refine wpIn_region_lit ?_
 refine st_v hS rfl rfl (run_load_all (i := 1) Tryz.isAgg27 Tryz.sizeOf27 hS rfl rfl rfl) fun a hS => st_v hS rfl rfl (run_load_all (i := 0) Tryz.isAgg33 Tryz.sizeOf33 hS rfl rfl rfl) fun a hS => st_v hS rfl rfl (run_build (pv := [(0, .agg #[.slice _ _ _, .slice _ _ _, .slice _ _ _, .slice _ _ _, .slice _ _ _, .slice _ _ _, .slice _ _ _, .slice _ _ _, .slice _ _ _, .slice _ _ _, .slice _ _ _, .slice _ _ _, .slice _ _ _, .slice _ _ _, .slice _ _ _, .slice _ _ _, .slice _ _ _, .slice _ _ _, .slice _ _ _, .slice _ _ _, .slice _ _ _, .slice _ _ _, .slice _ _ _, .slice _ _ _, .int .i64 _, .int .i64 _]), (1, .agg #[.int .i64 _, .int .i64 _, .int .i64 _, .int .i64 _, .int .i64 _, .int .i64 _, .int .i64 _, .int .i64 _])]) (fun W => bd118_0_1 _ _ _ _ _ _ _ _ _ _ _ _ _ _ _ _ _ _ _ _ _ _ _ _ _ _ _ _ _ _ _ _ _ _ _ _ _ _ _ _ _ _ _ _ _ _ _ _ _ _ _ _ _ _ _ _ _ _ _ _ _ _ _ _ _ _ _ _ _ _ _ _ _ _ _ _ _ _ _ _ _ _ W) hS rfl) fun a hS => st_alloc_agg Tryz.zeroValue118 hS rfl rfl fun W a b2 hS => st_store (cs' := [.slice Vr.hover.x.a r.hover.X.length Vr.hover.x.c, .slice Vr.hover.y.a r.hover.Y.length Vr.hover.y.c, .slice Vr.hover.v.a r.hover.V.length Vr.hover.v.c, .slice Vr.ground.x.a r.ground.X.length Vr.ground.x.c, .slice Vr.ground.y.a r.ground.Y.length Vr.ground.y.c, .slice Vr.ground.v.a r.ground.V.length Vr.ground.v.c, .slice Vr.level.x.a r.level.X.length Vr.level.x.c, .slice Vr.level.y.a r.level.Y.length Vr.level.y.c, .slice Vr.level.v.a r.level.V.length Vr.level.v.c, .slice Vr.power.x.a r.power.X.length Vr.power.x.c, .slice Vr.power.y.a r.power.Y.length Vr.power.y.c, .slice Vr.power.v.a r.power.V.length Vr.power.v.c, .slice Vr.never.x.a r.never.X.length Vr.never.x.c, .slice Vr.never.y.a r.never.Y.length Vr.never.y.c, .slice Vr.never.v.a r.never.V.length Vr.never.v.c, .slice Vr.low.x.a r.low.X.length Vr.low.x.c, .slice Vr.low.y.a r.low.Y.length Vr.low.y.c, .slice Vr.low.v.a r.low.V.length Vr.low.v.c, .slice Vr.high.x.a r.high.X.length Vr.high.x.c, .slice Vr.high.y.a r.high.Y.length Vr.high.y.c, .slice Vr.high.v.a r.high.V.length Vr.high.v.c, .slice Vr.glide.x.a r.glide.X.length Vr.glide.x.c, .slice Vr.glide.y.a r.glide.Y.length Vr.glide.y.c, .slice Vr.glide.v.a r.glide.V.length Vr.glide.v.c, .int .i64 r.climb, .int .i64 r.burn, .int .i64 A.weight.lo, .int .i64 A.weight.hi, .int .i64 A.temp.lo, .int .i64 A.temp.hi, .int .i64 A.height.lo, .int .i64 A.height.hi, .int .i64 A.wind.lo, .int .i64 A.wind.hi]) (i := 0) Tryz.sizeOf118 hS rfl rfl rfl rfl rfl rfl rfl rfl rfl fun W a hS => wl_nil ?_
 refine wpIn_seq ?_
 refine wpIn_seq ?_
 refine wpIn_region_lit ?_
 refine st_v hS rfl rfl (run_load_all (i := 0) Tryz.isAgg118 Tryz.sizeOf118 hS rfl rfl rfl) fun a hS => st_call (rotor_checkSpeeds (FL := fun _ => True) Vr r A 105 [] [] (Hr _ hS.below) Tryz.call105 (fun W _ _ => rotor_bs1) (by decide) (fun _ x hx => by cases hx)) Tryz.call104 hS rfl rfl rfl fun v W a hR hB hlt hS => ?_
 rw [show ((([] : List LookV).all fun x => liesT x.t x.p x.q) && onBest r A) = onBest r A from rfl] at hR
 subst hR
 refine st_v hS rfl rfl (run_assign hS rfl) fun a hS => wl_nil ?_
 refine wpIn_seq ?_
 refine wpIn_region_lit ?_
 refine st_v hS rfl rfl (run_move hS rfl) fun a hS => st_v hS rfl rfl (run_bin hS rfl rfl rfl) fun a hS => wl_nil ?_
 refine st_cond hS rfl (fun hc1 => ?_) (fun hc1 => ?_)
 ·
  try simp only [ty] at hc1
  refine wpIn_seq ?_
  refine wpIn_region_lit ?_
  refine st_v hS rfl rfl (run_move hS rfl) fun a hS => st_v hS rfl rfl (run_assign hS rfl) fun a hS => st_v hS rfl rfl (run_assign hS rfl) fun a hS => st_v hS rfl rfl (run_assign hS rfl) fun a hS => wl_nil ?_
  refine wpIn_ret ?_
  repeat (first | refine q_ret ?_ | refine q_block_ret ?_)
  refine hS.done (res3 (fn := Tryz.f36) (r1 := .tmp 4) (r2 := .tmp 5) (r3 := .tmp 6) rfl (rv_tmp hS rfl) (rv_tmp hS rfl) (rv_tmp hS rfl)) ?_
  exact t3i (p := 0) (q := 0) (by rw [bestS, bestE, if_neg hc1]) (by rw [bestR, bestE, if_neg hc1]) rfl
 ·
  try simp only [ty] at hc1
  obtain ⟨hrok, haok, hob⟩ := errC_ok hc1
  obtain ⟨hA1, hA2, hA3, hA4⟩ := (airOk_iff A).1 haok
  have hRp := rot_p hrok
  have hX := (tab_axes hRp.level.1).1
  have hlx : lastOf r.level.X = ix r.level.X (r.level.X.length - 1) := rfl
  have hx2 := hX.two; have hx12 := hX.most
  have hx0 := hX.low 0 (by omega); have hx1 : lastOf r.level.X ≤ 1000000 := hX.high (r.level.X.length - 1) (by omega)
  have hxl : ix r.level.X 0 ≤ lastOf r.level.X := hX.le (Nat.zero_le _) (by omega)
  refine wpIn_skip ?_
  refine wpIn_seq ?_
  refine wpIn_region_lit ?_
  refine st_v hS rfl rfl (run_load_all (i := 0) Tryz.isAgg118 Tryz.sizeOf118 hS rfl rfl rfl) fun a hS => st_call (mach_speeds Vr r A (Hr _ hS.below) (by assumption) (by assumption)) Tryz.call106 hS rfl rfl rfl fun v W a hR hB hlt hS => ?_
  subst hR
  refine st_v hS rfl rfl (run_move hS rfl) fun a hS => st_v hS rfl rfl (run_extract hS rfl rfl) fun a hS => st_v hS rfl rfl (run_extract hS rfl rfl) fun a hS => st_v hS rfl rfl (run_assign hS rfl) fun a hS => st_v hS rfl rfl (run_assign hS rfl) fun a hS => wl_nil ?_
  refine wpIn_seq ?_
  refine wpIn_seq ?_
  refine wpIn_region_lit ?_
  refine st_v hS rfl rfl (run_move hS rfl) fun a hS => st_v hS rfl rfl (run_assign hS rfl) fun a hS => wl_nil ?_
  refine wpIn_block ?_
  refine st_loop2 (α := Nat × Int × Int × Int) (fun z => [(11, .int .i64 z.2.1), (4, .int .i64 z.2.2.1), (5, .int .i64 z.2.2.2)]) [(0, _), (1, _), (2, _), (3, _), (6, _), (7, _), (8, _), (9, _), (10, _)] (fun l _ => l) (fun z => ((z.1 : Int) ≤ lastOf r.level.X - ix r.level.X 0 + 1 ∧ z.2.1 = ix r.level.X 0 + (z.1 : Int)) ∧ (1 ≤ z.1 → z.2.2 = bestW (rateOf r A) (ix r.level.X 0) (z.1 - 1))) (fun z => (lastOf r.level.X - ix r.level.X 0 + 1 - (z.1 : Int)).toNat) (⟨0, ix r.level.X 0, 0, 0⟩) hS (Sub.cons rfl (Sub.cons rfl (Sub.cons rfl (Sub.cons rfl (Sub.cons rfl (Sub.cons rfl (Sub.cons rfl (Sub.cons rfl (Sub.cons rfl (Sub.cons rfl (Sub.cons rfl (Sub.cons rfl Sub.nil)))))))))))) rfl (⟨⟨by dsimp only; omega, by simp⟩, fun h => by dsimp only at h; omega⟩) (fun z W a hφ hS => ?_)
  obtain ⟨i, sp, p0, q0⟩ := z
  dsimp only [setB, List.cons_append, List.nil_append, List.take] at hS hφ
  obtain ⟨⟨hi, hsp⟩, hbw⟩ := hφ
  have hrt := best_rate (s := sp) hrok hob (by omega)
  refine wpIn_seq ?_
  refine wpIn_seq ?_
  refine wpIn_region_lit ?_
  refine st_v hS rfl rfl (run_move hS rfl) fun a hS => st_v hS rfl rfl (run_move hS rfl) fun a hS => st_v hS rfl rfl (run_bin hS rfl rfl rfl) fun a hS => wl_nil ?_
  refine st_cond hS rfl (fun hc2 => ?_) (fun hc2 => ?_)
  ·
   try simp only [ty] at hc2
   
   refine wpIn_skip ?_
   refine wpIn_seq ?_
   refine wpIn_block ?_
   refine wpIn_seq ?_
   refine wpIn_region_lit ?_
   refine st_v hS rfl rfl (run_load_all (i := 0) Tryz.isAgg118 Tryz.sizeOf118 hS rfl rfl rfl) fun a hS => st_v hS rfl rfl (run_move hS rfl) fun a hS => st_call (mach_rate Vr r A (Hr _ hS.below) (by assumption) (by assumption) (by exact hrt (by omega))) Tryz.call107 hS rfl rfl rfl fun v W a hR hB hlt hS => ?_
   subst hR
   refine st_v hS rfl rfl (run_assign hS rfl) fun a hS => wl_nil ?_
   refine wpIn_seq ?_
   refine wpIn_region_lit ?_
   refine st_v hS rfl rfl (run_move hS rfl) fun a hS => st_v hS rfl rfl (run_move hS rfl) fun a hS => st_v hS rfl rfl (run_bin hS rfl rfl rfl) fun a hS => st_v hS rfl rfl (run_move hS rfl) fun a hS => ?_
   refine st_split (d := 38) hS rfl (fun hc3 hS => ?_) (fun hc3 hS => ?_)
   ·
    try simp only [ty] at hc3
    refine st_skip hS (hS.unwanted rfl rfl rfl rfl) rfl fun a hS => st_skip hS (hS.unwanted rfl rfl rfl rfl) rfl fun a hS => st_skip hS (hS.unwanted rfl rfl rfl rfl) rfl fun a hS => st_v hS rfl rfl (run_pick_t hS rfl rfl) fun a hS => wl_nil ?_
    refine st_cond_t hS rfl ?_
    refine wpIn_region_lit ?_
    refine st_v hS rfl rfl (run_move hS rfl) fun a hS => st_v hS rfl rfl (run_move hS rfl) fun a hS => st_v hS rfl rfl (run_assign hS rfl) fun a hS => st_v hS rfl rfl (run_assign hS rfl) fun a hS => wl_nil ?_
    refine wpIn_region_lit ?_
    refine st_v hS rfl rfl (run_move hS rfl) fun a hS => st_v hS rfl rfl (run_add (t := sp + 1) hS rfl rfl (rfl) (by omega) (by omega)) fun a hS => st_v hS rfl rfl (run_assign hS rfl) fun a hS => wl_nil ?_
    refine ⟨⟨i + 1, sp + 1, sp, (rateOf r A sp)⟩, ⟨⟨⟨by dsimp only; omega, by dsimp only; omega⟩, fun _ => ?_⟩, by dsimp only; omega⟩, (hS.sub (Sub.cons rfl (Sub.cons rfl (Sub.cons rfl (Sub.cons rfl (Sub.cons rfl (Sub.cons rfl (Sub.cons rfl (Sub.cons rfl (Sub.cons rfl (Sub.cons rfl (Sub.cons rfl (Sub.cons rfl Sub.nil)))))))))))))⟩
    have e : i = 0 := by omega
    subst hsp; subst e; exact bestW_first
   ·
    try simp only [ty] at hc3
    
    refine st_v hS (hS.wanted rfl rfl rfl) rfl (run_move hS rfl) fun a hS => st_v hS (hS.wanted rfl rfl rfl) rfl (run_move hS rfl) fun a hS => st_v hS (hS.wanted rfl rfl rfl) rfl (run_bin hS rfl rfl rfl) fun a hS => st_v hS rfl rfl (run_pick_f hS rfl rfl) fun a hS => wl_nil ?_
    refine st_cond hS rfl (fun hc4 => ?_) (fun hc4 => ?_)
    ·
     try simp only [ty] at hc4
     refine wpIn_region_lit ?_
     refine st_v hS rfl rfl (run_move hS rfl) fun a hS => st_v hS rfl rfl (run_move hS rfl) fun a hS => st_v hS rfl rfl (run_assign hS rfl) fun a hS => st_v hS rfl rfl (run_assign hS rfl) fun a hS => wl_nil ?_
     refine wpIn_region_lit ?_
     refine st_v hS rfl rfl (run_move hS rfl) fun a hS => st_v hS rfl rfl (run_add (t := sp + 1) hS rfl rfl (rfl) (by omega) (by omega)) fun a hS => st_v hS rfl rfl (run_assign hS rfl) fun a hS => wl_nil ?_
     refine ⟨⟨i + 1, sp + 1, sp, (rateOf r A sp)⟩, ⟨⟨⟨by dsimp only; omega, by dsimp only; omega⟩, fun _ => ?_⟩, by dsimp only; omega⟩, (hS.sub (Sub.cons rfl (Sub.cons rfl (Sub.cons rfl (Sub.cons rfl (Sub.cons rfl (Sub.cons rfl (Sub.cons rfl (Sub.cons rfl (Sub.cons rfl (Sub.cons rfl (Sub.cons rfl (Sub.cons rfl Sub.nil)))))))))))))⟩
     subst hsp; exact (bestW_step (by omega) (hbw (by omega))).1 (by omega)
    ·
     try simp only [ty] at hc4
     
     refine wpIn_skip ?_
     refine wpIn_region_lit ?_
     refine st_v hS rfl rfl (run_move hS rfl) fun a hS => st_v hS rfl rfl (run_add (t := sp + 1) hS rfl rfl (rfl) (by omega) (by omega)) fun a hS => st_v hS rfl rfl (run_assign hS rfl) fun a hS => wl_nil ?_
     refine ⟨⟨i + 1, sp + 1, p0, q0⟩, ⟨⟨⟨by dsimp only; omega, by dsimp only; omega⟩, fun _ => ?_⟩, by dsimp only; omega⟩, (hS.sub (Sub.cons rfl (Sub.cons rfl (Sub.cons rfl (Sub.cons rfl (Sub.cons rfl (Sub.cons rfl (Sub.cons rfl (Sub.cons rfl (Sub.cons rfl (Sub.cons rfl (Sub.cons rfl (Sub.cons rfl Sub.nil)))))))))))))⟩
     subst hsp; exact (bestW_step (by omega) (hbw (by omega))).2 (by omega)
  ·
   try simp only [ty] at hc2
   
   refine wpIn_exit ?_
   refine wpIn_seq ?_
   refine wpIn_region_lit ?_
   refine st_v hS rfl rfl (run_move hS rfl) fun a hS => st_v hS rfl rfl (run_move hS rfl) fun a hS => st_v hS rfl rfl (run_assign hS rfl) fun a hS => st_v hS rfl rfl (run_assign hS rfl) fun a hS => st_v hS rfl rfl (run_assign hS rfl) fun a hS => wl_nil ?_
   refine wpIn_ret ?_
   repeat (first | refine q_ret ?_ | refine q_block_ret ?_)
   refine hS.done (res3 (fn := Tryz.f36) (r1 := .tmp 4) (r2 := .tmp 5) (r3 := .tmp 6) rfl (rv_tmp hS rfl) (rv_tmp hS rfl) (rv_tmp hS rfl)) ?_
   have e : (p0, q0) = bestOf r A := by rw [hbw (by omega)]; unfold bestOf; rw [show i - 1 = (lastOf r.level.X - ix r.level.X 0).toNat by omega]
   exact t3i (by rw [bestS, bestE, if_pos hc1, ← e]) (by rw [bestR, bestE, if_pos hc1, ← e]) (by rw [bestE, hc1])


set_option maxHeartbeats 2000000 in
set_option maxRecDepth 100000 in
theorem ref02_checkSpeeds  (Vr : RV) (r : Rot) (A : Air) {w : World} {Fr : Nat → Prop} (hr : RotR Fr w Vr r)  : Ret Tryz.prog 108 [.agg (rotC Vr r).toArray, .agg (airC A).toArray] w (fun v _ => v = .int .i64 (errC r A (onBest r A))) := by
 refine ret_start (n := 29) Tryz.func108 rfl rfl rfl (fun a hS => ?_)
 have Hr : ∀ W, Below w.heap.size w W → RotR Fr W Vr r := fun W hb => hr.move (keep_of hb)
 refine wpIn_seq ?_
 refine wpIn_region_lit ?_
 refine st_box_agg hS rfl rfl rfl fun W a b0 hS => st_box_agg hS rfl rfl rfl fun W a b1 hS => st_v hS rfl rfl (run_assign hS rfl) fun a hS => wl_nil ?_
 refine wpIn_seq ?_
 refine wpIn_region_lit ?_
 refine st_v hS rfl rfl (run_load_all (i := 1) Tryz.isAgg27 Tryz.sizeOf27 hS rfl rfl rfl) fun a hS => st_v hS rfl rfl (run_load_all (i := 0) Tryz.isAgg33 Tryz.sizeOf33 hS rfl rfl rfl) fun a hS => st_call (ref02_CheckAir Vr r A (Hr _ hS.below)) Tryz.call160 hS rfl rfl rfl fun v W a hR hB hlt hS => ?_
 subst hR
 refine st_v hS rfl rfl (run_assign hS rfl) fun a hS => wl_nil ?_
 refine wpIn_seq ?_
 refine wpIn_seq ?_
 refine wpIn_region_lit ?_
 refine st_v hS rfl rfl (run_move hS rfl) fun a hS => st_v hS rfl rfl (run_bin hS rfl rfl rfl) fun a hS => wl_nil ?_
 refine st_cond hS rfl (fun hc1 => ?_) (fun hc1 => ?_)
 ·
  try simp only [ty] at hc1
  refine wpIn_seq ?_
  refine wpIn_region_lit ?_
  refine st_v hS rfl rfl (run_move hS rfl) fun a hS => st_v hS rfl rfl (run_assign hS rfl) fun a hS => wl_nil ?_
  refine wpIn_ret ?_
  repeat (first | refine q_ret ?_ | refine q_block_ret ?_)
  refine hS.done (res1 (fn := Tryz.f108) (r1 := .tmp 4) rfl (rv_tmp hS rfl)) ?_
  exact congrArg (Value.int .i64) (errC_t hc1).symm
 ·
  try simp only [ty] at hc1
  obtain ⟨hrok, haok, _⟩ := errC_ok hc1
  obtain ⟨hA1, hA2, hA3, hA4⟩ := (airOk_iff A).1 haok
  have hRp := rot_p hrok
  refine wpIn_skip ?_
  refine wpIn_seq ?_
  refine wpIn_seq ?_
  refine wpIn_region_lit ?_
  refine st_v hS rfl rfl (run_fieldAddr fa27_3 hS rfl) fun a hS => st_v hS rfl rfl (run_load_agg (i := 1) (vs := [_, _, _]) Tryz.isAgg25 Tryz.sizeOf25 hS rfl rfl rfl ⟨rfl, rfl, rfl, trivial⟩) fun a hS => st_v hS rfl rfl (run_fieldAddr fa33_1 hS rfl) fun a hS => st_v hS rfl rfl (run_load_agg (i := 0) (vs := [_, _]) Tryz.isAgg31 Tryz.sizeOf31 hS rfl rfl rfl ⟨rfl, rfl, trivial⟩) fun a hS => st_v hS rfl rfl (run_fieldAddr fa33_2 hS rfl) fun a hS => st_v hS rfl rfl (run_load_agg (i := 0) (vs := [_, _]) Tryz.isAgg31 Tryz.sizeOf31 hS rfl rfl rfl ⟨rfl, rfl, trivial⟩) fun a hS => st_call (ref02_lies Vr.power r.power A.temp A.height ((fun W hC => (Hr W hC).power) _ hS.below) (by exact hRp.power.1)) Tryz.call112 hS rfl rfl rfl fun v W a hR hB hlt hS => ?_
  subst hR
  refine st_v hS rfl rfl (run_not hS rfl) fun a hS => st_v hS rfl rfl (run_move hS rfl) fun a hS => ?_
  refine st_split (d := 20) hS rfl (fun hc2 hS => ?_) (fun hc2 hS => ?_)
  ·
   try simp only [ty] at hc2
   refine st_skip hS (hS.unwanted rfl rfl rfl rfl) rfl fun a hS => st_skip hS (hS.unwanted rfl rfl rfl rfl) rfl fun a hS => st_skip hS (hS.unwanted rfl rfl rfl rfl) rfl fun a hS => st_skip hS (hS.unwanted rfl rfl rfl rfl) rfl fun a hS => st_skip hS (hS.unwanted rfl rfl rfl rfl) rfl fun a hS => st_skip hS (hS.unwanted rfl rfl rfl rfl) rfl fun a hS => st_skip hS (hS.unwanted rfl rfl rfl rfl) rfl fun a hS => st_v hS rfl rfl (run_pick_t hS rfl rfl) fun a hS => wl_nil ?_
   refine st_cond_t hS rfl ?_
   refine wpIn_seq ?_
   refine wpIn_region_lit ?_
   refine st_v hS rfl rfl (run_assign hS rfl) fun a hS => wl_nil ?_
   refine wpIn_ret ?_
   repeat (first | refine q_ret ?_ | refine q_block_ret ?_)
   refine hS.done (res1 (fn := Tryz.f108) (r1 := .tmp 4) rfl (rv_tmp hS rfl)) ?_
   rw [errC_tf hrok haok (by revert hc2; unfold onBest onHas; cases liesT r.power A.temp A.height <;> simp [hA2, hA3])]
  ·
   try simp only [ty] at hc2
   
   refine st_v hS (hS.wanted rfl rfl rfl) rfl (run_fieldAddr fa27_2 hS rfl) fun a hS => st_v hS (hS.wanted rfl rfl rfl) rfl (run_fieldAddr fa25_1 hS rfl) fun a hS => st_v hS (hS.wanted rfl rfl rfl) rfl (run_load_one (i := 1) Tryz.isAgg22 hS rfl rfl rfl) fun a hS => st_v hS (hS.wanted rfl rfl rfl) rfl (run_fieldAddr fa33_0 hS rfl) fun a hS => st_v hS (hS.wanted rfl rfl rfl) rfl (run_load_agg (i := 0) (vs := [_, _]) Tryz.isAgg31 Tryz.sizeOf31 hS rfl rfl rfl ⟨rfl, rfl, trivial⟩) fun a hS => st_call (ref01_Between Vr.level.y r.level.Y A.weight ((fun W hC => ((fun W hC => (Hr W hC).level) W hC).2.1) _ hS.below) (by have := (tab_axes hRp.level.1).2.1.two; omega)) Tryz.call161 hS (hS.wanted rfl rfl rfl) rfl rfl fun v W a hR hB hlt hS => ?_
   subst hR
   refine st_v hS (hS.wanted rfl rfl rfl) rfl (run_not hS rfl) fun a hS => st_v hS rfl rfl (run_pick_f hS rfl rfl) fun a hS => wl_nil ?_
   refine st_cond hS rfl (fun hc3 => ?_) (fun hc3 => ?_)
   ·
    try simp only [ty] at hc3
    refine wpIn_seq ?_
    refine wpIn_region_lit ?_
    refine st_v hS rfl rfl (run_assign hS rfl) fun a hS => wl_nil ?_
    refine wpIn_ret ?_
    repeat (first | refine q_ret ?_ | refine q_block_ret ?_)
    refine hS.done (res1 (fn := Tryz.f108) (r1 := .tmp 4) rfl (rv_tmp hS rfl)) ?_
    rw [errC_tf hrok haok (by unfold onBest; simp [hc3])]
   ·
    try simp only [ty] at hc3
    refine wpIn_skip ?_
    refine wpIn_seq ?_
    refine wpIn_region_lit ?_
    refine st_v hS rfl rfl (run_assign hS rfl) fun a hS => wl_nil ?_
    refine wpIn_ret ?_
    repeat (first | refine q_ret ?_ | refine q_block_ret ?_)
    refine hS.done (res1 (fn := Tryz.f108) (r1 := .tmp 4) rfl (rv_tmp hS rfl)) ?_
    rw [errC_tt hrok haok (by revert hc2; unfold onBest onHas; rw [hc3]; cases liesT r.power A.temp A.height <;> simp [hA2, hA3])]


set_option maxHeartbeats 8000000 in
set_option maxRecDepth 100000 in
theorem ref02_Best  (Vr : RV) (r : Rot) (A : Air) {w : World} {Fr : Nat → Prop} (hr : RotR Fr w Vr r)  : Ret Tryz.prog 37 [.agg (rotC Vr r).toArray, .agg (airC A).toArray] w (fun v _ => v = .tuple #[.int .i64 (bestS r A), .int .i64 (bestR r A), .int .i64 (bestE r A)]) := by
 refine ret_start (n := 60) Tryz.func37 rfl rfl rfl (fun a hS => ?_)
 have Hr : ∀ W, Below w.heap.size w W → RotR Fr W Vr r := fun W hb => hr.move (keep_of hb)
 refine wpIn_seq ?_
 refine wpIn_region_lit ?_
 refine st_box_agg hS rfl rfl rfl fun W a b0 hS => st_box_agg hS rfl rfl rfl fun W a b1 hS => st_v hS rfl rfl (run_assign hS rfl) fun a hS => st_v hS rfl rfl (run_assign hS rfl) fun a hS => st_v hS rfl rfl (run_assign hS rfl) fun a hS => wl_nil ?_
 refine wpIn_seq ?_
 refine wpIn_region_lit ?_
 refine st_v hS rfl rfl (run_load_all (i := 1) Tryz.isAgg27 Tryz.sizeOf27 hS rfl rfl rfl) fun a hS => st_v hS rfl rfl (run_load_all (i := 0) Tryz.isAgg33 Tryz.sizeOf33 hS rfl rfl rfl) fun a hS => st_call (ref02_checkSpeeds Vr r A (Hr _ hS.below)) Tryz.call108 hS rfl rfl rfl fun v W a hR hB hlt hS => ?_
 subst hR
 refine st_v hS rfl rfl (run_assign hS rfl) fun a hS => wl_nil ?_
 refine wpIn_seq ?_
 refine wpIn_seq ?_
 refine wpIn_region_lit ?_
 refine st_v hS rfl rfl (run_move hS rfl) fun a hS => st_v hS rfl rfl (run_bin hS rfl rfl rfl) fun a hS => wl_nil ?_
 refine st_cond hS rfl (fun hc1 => ?_) (fun hc1 => ?_)
 ·
  try simp only [ty] at hc1
  refine wpIn_seq ?_
  refine wpIn_region_lit ?_
  refine st_v hS rfl rfl (run_move hS rfl) fun a hS => st_v hS rfl rfl (run_assign hS rfl) fun a hS => st_v hS rfl rfl (run_assign hS rfl) fun a hS => st_v hS rfl rfl (run_assign hS rfl) fun a hS => wl_nil ?_
  refine wpIn_ret ?_
  repeat (first | refine q_ret ?_ | refine q_block_ret ?_)
  refine hS.done (res3 (fn := Tryz.f37) (r1 := .tmp 4) (r2 := .tmp 5) (r3 := .tmp 6) rfl (rv_tmp hS rfl) (rv_tmp hS rfl) (rv_tmp hS rfl)) ?_
  exact t3i (p := 0) (q := 0) (by rw [bestS, bestE, if_neg hc1]) (by rw [bestR, bestE, if_neg hc1]) rfl
 ·
  try simp only [ty] at hc1
  obtain ⟨hrok, haok, hob⟩ := errC_ok hc1
  obtain ⟨hA1, hA2, hA3, hA4⟩ := (airOk_iff A).1 haok
  have hRp := rot_p hrok
  have hX := (tab_axes hRp.level.1).1
  have hlx : lastOf r.level.X = ix r.level.X (r.level.X.length - 1) := rfl
  have hx2 := hX.two; have hx12 := hX.most
  have hx0 := hX.low 0 (by omega); have hx1 : lastOf r.level.X ≤ 1000000 := hX.high (r.level.X.length - 1) (by omega)
  have hxl : ix r.level.X 0 ≤ lastOf r.level.X := hX.le (Nat.zero_le _) (by omega)
  refine wpIn_skip ?_
  refine wpIn_seq ?_
  refine wpIn_region_lit ?_
  refine st_v hS rfl rfl (run_fieldAddr fa27_2 hS rfl) fun a hS => st_v hS rfl rfl (run_fieldAddr fa25_0 hS rfl) fun a hS => st_v hS rfl rfl (run_load_one (i := 1) Tryz.isAgg22 hS rfl rfl rfl) fun a hS => st_v hS rfl rfl (run_assign hS rfl) fun a hS => wl_nil ?_
  refine wpIn_seq ?_
  refine wpIn_region_lit ?_
  refine st_v hS rfl rfl (run_move hS rfl) fun a hS => ?_
  obtain ⟨ad0, hA0, hL0⟩ := sl_int (fun W hC => ((fun W hC => (Hr W hC).level) W hC).1) (Below.refl _ _) (i := 0) (j := 0) (by omega) (by omega)
  refine st_v hS rfl rfl (run_indexAddr Tryz.underlying22 Tryz.sizeOf3 hS rfl rfl hA0 (by omega) (by omega)) fun a hS => st_v hS rfl rfl (run_load_cell Tryz.isAgg3 hS rfl (hL0 _ hS.below)) fun a hS => st_v hS rfl rfl (run_assign hS rfl) fun a hS => st_v hS rfl rfl (run_assign hS rfl) fun a hS => wl_nil ?_
  refine wpIn_seq ?_
  refine wpIn_seq ?_
  refine wpIn_region_lit ?_
  refine st_v hS rfl rfl (run_move hS rfl) fun a hS => ?_
  obtain ⟨ad1, hA1, hL1⟩ := sl_int (fun W hC => ((fun W hC => (Hr W hC).level) W hC).1) (Below.refl _ _) (i := 0) (j := 0) (by omega) (by omega)
  refine st_v hS rfl rfl (run_indexAddr Tryz.underlying22 Tryz.sizeOf3 hS rfl rfl hA1 (by omega) (by omega)) fun a hS => st_v hS rfl rfl (run_load_cell Tryz.isAgg3 hS rfl (hL1 _ hS.below)) fun a hS => st_v hS rfl rfl (run_assign hS rfl) fun a hS => wl_nil ?_
  refine wpIn_block ?_
  refine st_loop2 (α := Nat × Int × Int × Int) (fun z => [(11, .int .i64 z.2.1), (9, .int .i64 z.2.2.1), (10, .int .i64 z.2.2.2)]) [(0, _), (1, _), (2, _), (3, _), (4, _), (5, _), (6, _), (7, _), (8, _)] (fun l _ => l) (fun z => ((z.1 : Int) ≤ lastOf r.level.X - ix r.level.X 0 + 1 ∧ z.2.1 = ix r.level.X 0 + (z.1 : Int)) ∧ (1 ≤ z.1 → z.2.2 = bestW (rateOf r A) (ix r.level.X 0) (z.1 - 1))) (fun z => (lastOf r.level.X - ix r.level.X 0 + 1 - (z.1 : Int)).toNat) (⟨0, ix r.level.X 0, ix r.level.X 0, 0⟩) hS (Sub.cons rfl (Sub.cons rfl (Sub.cons rfl (Sub.cons rfl (Sub.cons rfl (Sub.cons rfl (Sub.cons rfl (Sub.cons rfl (Sub.cons rfl (Sub.cons rfl (Sub.cons rfl (Sub.cons rfl Sub.nil)))))))))))) rfl (⟨⟨by dsimp only; omega, by simp⟩, fun h => by dsimp only at h; omega⟩) (fun z W a hφ hS => ?_)
  obtain ⟨i, sp, p0, q0⟩ := z
  dsimp only [setB, List.cons_append, List.nil_append, List.take] at hS hφ
  obtain ⟨⟨hi, hsp⟩, hbw⟩ := hφ
  have hrt := best_rate (s := sp) hrok hob (by omega)
  refine wpIn_seq ?_
  refine wpIn_seq ?_
  refine wpIn_region_lit ?_
  refine st_v hS rfl rfl (run_move hS rfl) fun a hS => st_v hS rfl rfl (run_move hS rfl) fun a hS => st_v hS rfl rfl (run_move hS rfl) fun a hS => st_v hS rfl rfl (run_len_slice Tryz.underlying22 hS rfl) fun a hS => st_v hS rfl rfl (run_sub (t := ((r.level.X.length - 1 : Nat) : Int)) hS rfl rfl (by omega) (by omega) (by omega)) fun a hS => ?_
  obtain ⟨ad2, hA2, hL2⟩ := sl_int (fun W hC => ((fun W hC => (Hr W hC).level) W hC).1) (Below.refl _ _) (i := ((r.level.X.length - 1 : Nat) : Int)) (j := r.level.X.length - 1) (by omega) (by omega)
  refine st_v hS rfl rfl (run_indexAddr Tryz.underlying22 Tryz.sizeOf3 hS rfl rfl hA2 (by omega) (by omega)) fun a hS => st_v hS rfl rfl (run_load_cell Tryz.isAgg3 hS rfl (hL2 _ hS.below)) fun a hS => st_v hS rfl rfl (run_bin hS rfl rfl rfl) fun a hS => wl_nil ?_
  refine st_cond hS rfl (fun hc2 => ?_) (fun hc2 => ?_)
  ·
   try simp only [ty] at hc2
   
   refine wpIn_skip ?_
   refine wpIn_seq ?_
   refine wpIn_block ?_
   refine wpIn_seq ?_
   refine wpIn_region_lit ?_
   refine st_v hS rfl rfl (run_load_all (i := 1) Tryz.isAgg27 Tryz.sizeOf27 hS rfl rfl rfl) fun a hS => st_v hS rfl rfl (run_load_all (i := 0) Tryz.isAgg33 Tryz.sizeOf33 hS rfl rfl rfl) fun a hS => st_v hS rfl rfl (run_move hS rfl) fun a hS => st_call (ref02_Rate Vr r A (n := sp) (Hr _ hS.below)) Tryz.call109 hS rfl rfl rfl fun v W a hR hB hlt hS => ?_
   have hE := errC_of hrok haok (hrt (by omega))
   rw [if_pos hE, hE] at hR
   subst hR
   refine st_v hS rfl rfl (run_move hS rfl) fun a hS => st_v hS rfl rfl (run_extract hS rfl rfl) fun a hS => st_v hS rfl rfl (run_extract hS rfl rfl) fun a hS => st_v hS rfl rfl (run_assign hS rfl) fun a hS => st_v hS rfl rfl (run_assign hS rfl) fun a hS => wl_nil ?_
   refine wpIn_seq ?_
   refine wpIn_region_lit ?_
   refine st_v hS rfl rfl (run_move hS rfl) fun a hS => st_v hS rfl rfl (run_move hS rfl) fun a hS => ?_
   obtain ⟨ad3, hA3, hL3⟩ := sl_int (fun W hC => ((fun W hC => (Hr W hC).level) W hC).1) (Below.refl _ _) (i := 0) (j := 0) (by omega) (by omega)
   refine st_v hS rfl rfl (run_indexAddr Tryz.underlying22 Tryz.sizeOf3 hS rfl rfl hA3 (by omega) (by omega)) fun a hS => st_v hS rfl rfl (run_load_cell Tryz.isAgg3 hS rfl (hL3 _ hS.below)) fun a hS => st_v hS rfl rfl (run_bin hS rfl rfl rfl) fun a hS => st_v hS rfl rfl (run_move hS rfl) fun a hS => ?_
   refine st_split (d := 51) hS rfl (fun hc3 hS => ?_) (fun hc3 hS => ?_)
   ·
    try simp only [ty] at hc3
    refine st_skip hS (hS.unwanted rfl rfl rfl rfl) rfl fun a hS => st_skip hS (hS.unwanted rfl rfl rfl rfl) rfl fun a hS => st_skip hS (hS.unwanted rfl rfl rfl rfl) rfl fun a hS => st_v hS rfl rfl (run_pick_t hS rfl rfl) fun a hS => wl_nil ?_
    have hS := hS.sub (κ' := [(0, _), (1, _), (2, _), (3, _), (4, _), (5, _), (6, _), (7, _), (8, _), (11, _), (9, _), (10, _), (12, _), (55, _)]) (Sub.cons rfl (Sub.cons rfl (Sub.cons rfl (Sub.cons rfl (Sub.cons rfl (Sub.cons rfl (Sub.cons rfl (Sub.cons rfl (Sub.cons rfl (Sub.cons rfl (Sub.cons rfl (Sub.cons rfl (Sub.cons rfl (Sub.cons rfl Sub.nil))))))))))))))
    refine st_cond_t hS rfl ?_
    refine wpIn_seq ?_
    refine wpIn_region_lit ?_
    refine st_v hS rfl rfl (run_move hS rfl) fun a hS => st_v hS rfl rfl (run_assign hS rfl) fun a hS => wl_nil ?_
    refine wpIn_region_lit ?_
    refine st_v hS rfl rfl (run_move hS rfl) fun a hS => st_v hS rfl rfl (run_assign hS rfl) fun a hS => wl_nil ?_
    refine wpIn_region_lit ?_
    refine st_v hS rfl rfl (run_move hS rfl) fun a hS => st_v hS rfl rfl (run_add (t := sp + 1) hS rfl rfl (rfl) (by omega) (by omega)) fun a hS => st_v hS rfl rfl (run_assign hS rfl) fun a hS => wl_nil ?_
    refine ⟨⟨i + 1, sp + 1, sp, (rateOf r A sp)⟩, ⟨⟨⟨by dsimp only; omega, by dsimp only; omega⟩, fun _ => ?_⟩, by dsimp only; omega⟩, (hS.sub (Sub.cons rfl (Sub.cons rfl (Sub.cons rfl (Sub.cons rfl (Sub.cons rfl (Sub.cons rfl (Sub.cons rfl (Sub.cons rfl (Sub.cons rfl (Sub.cons rfl (Sub.cons rfl (Sub.cons rfl Sub.nil)))))))))))))⟩
    have e : i = 0 := by omega
    subst hsp; subst e; exact bestW_first
   ·
    try simp only [ty] at hc3
    
    refine st_v hS (hS.wanted rfl rfl rfl) rfl (run_move hS rfl) fun a hS => st_v hS (hS.wanted rfl rfl rfl) rfl (run_move hS rfl) fun a hS => st_v hS (hS.wanted rfl rfl rfl) rfl (run_bin hS rfl rfl rfl) fun a hS => st_v hS rfl rfl (run_pick_f hS rfl rfl) fun a hS => wl_nil ?_
    have hS := hS.sub (κ' := [(0, _), (1, _), (2, _), (3, _), (4, _), (5, _), (6, _), (7, _), (8, _), (11, _), (9, _), (10, _), (12, _), (55, _)]) (Sub.cons rfl (Sub.cons rfl (Sub.cons rfl (Sub.cons rfl (Sub.cons rfl (Sub.cons rfl (Sub.cons rfl (Sub.cons rfl (Sub.cons rfl (Sub.cons rfl (Sub.cons rfl (Sub.cons rfl (Sub.cons rfl (Sub.cons rfl Sub.nil))))))))))))))
    refine st_cond hS rfl (fun hc4 => ?_) (fun hc4 => ?_)
    ·
     try simp only [ty] at hc4
     refine wpIn_seq ?_
     refine wpIn_region_lit ?_
     refine st_v hS rfl rfl (run_move hS rfl) fun a hS => st_v hS rfl rfl (run_assign hS rfl) fun a hS => wl_nil ?_
     refine wpIn_region_lit ?_
     refine st_v hS rfl rfl (run_move hS rfl) fun a hS => st_v hS rfl rfl (run_assign hS rfl) fun a hS => wl_nil ?_
     refine wpIn_region_lit ?_
     refine st_v hS rfl rfl (run_move hS rfl) fun a hS => st_v hS rfl rfl (run_add (t := sp + 1) hS rfl rfl (rfl) (by omega) (by omega)) fun a hS => st_v hS rfl rfl (run_assign hS rfl) fun a hS => wl_nil ?_
     refine ⟨⟨i + 1, sp + 1, sp, (rateOf r A sp)⟩, ⟨⟨⟨by dsimp only; omega, by dsimp only; omega⟩, fun _ => ?_⟩, by dsimp only; omega⟩, (hS.sub (Sub.cons rfl (Sub.cons rfl (Sub.cons rfl (Sub.cons rfl (Sub.cons rfl (Sub.cons rfl (Sub.cons rfl (Sub.cons rfl (Sub.cons rfl (Sub.cons rfl (Sub.cons rfl (Sub.cons rfl Sub.nil)))))))))))))⟩
     subst hsp; exact (bestW_step (by omega) (hbw (by omega))).1 (by omega)
    ·
     try simp only [ty] at hc4
     
     refine wpIn_skip ?_
     refine wpIn_region_lit ?_
     refine st_v hS rfl rfl (run_move hS rfl) fun a hS => st_v hS rfl rfl (run_add (t := sp + 1) hS rfl rfl (rfl) (by omega) (by omega)) fun a hS => st_v hS rfl rfl (run_assign hS rfl) fun a hS => wl_nil ?_
     refine ⟨⟨i + 1, sp + 1, p0, q0⟩, ⟨⟨⟨by dsimp only; omega, by dsimp only; omega⟩, fun _ => ?_⟩, by dsimp only; omega⟩, (hS.sub (Sub.cons rfl (Sub.cons rfl (Sub.cons rfl (Sub.cons rfl (Sub.cons rfl (Sub.cons rfl (Sub.cons rfl (Sub.cons rfl (Sub.cons rfl (Sub.cons rfl (Sub.cons rfl (Sub.cons rfl Sub.nil)))))))))))))⟩
     subst hsp; exact (bestW_step (by omega) (hbw (by omega))).2 (by omega)
  ·
   try simp only [ty] at hc2
   
   refine wpIn_exit ?_
   refine wpIn_seq ?_
   refine wpIn_region_lit ?_
   refine st_v hS rfl rfl (run_move hS rfl) fun a hS => st_v hS rfl rfl (run_move hS rfl) fun a hS => st_v hS rfl rfl (run_assign hS rfl) fun a hS => st_v hS rfl rfl (run_assign hS rfl) fun a hS => st_v hS rfl rfl (run_assign hS rfl) fun a hS => wl_nil ?_
   refine wpIn_ret ?_
   repeat (first | refine q_ret ?_ | refine q_block_ret ?_)
   refine hS.done (res3 (fn := Tryz.f37) (r1 := .tmp 4) (r2 := .tmp 5) (r3 := .tmp 6) rfl (rv_tmp hS rfl) (rv_tmp hS rfl) (rv_tmp hS rfl)) ?_
   have e : (p0, q0) = bestOf r A := by rw [hbw (by omega)]; unfold bestOf; rw [show i - 1 = (lastOf r.level.X - ix r.level.X 0).toNat by omega]
   exact t3i (by rw [bestS, bestE, if_pos hc1, ← e]) (by rw [bestR, bestE, if_pos hc1, ← e]) (by rw [bestE, hc1])


set_option maxHeartbeats 8000000 in
set_option maxRecDepth 100000 in
theorem rotor_Fast  (Vr : RV) (r : Rot) (A : Air) {w : World} {Fr : Nat → Prop} (hr : RotR Fr w Vr r)  : Ret Tryz.prog 38 [.agg (rotC Vr r).toArray, .agg (airC A).toArray] w (fun v _ => v = .tuple #[.int .i64 (fastV r A), .int .i64 (fastE r A)]) := by
 refine ret_start (n := 41) Tryz.func38 rfl rfl rfl (fun a hS => ?_)
 have Hr : ∀ W, Below w.heap.size w W → RotR Fr W Vr r := fun W hb => hr.move (keep_of hb)
 refine wpIn_seq ?_
 refine wpIn_region_lit ?_
 refine st_box_agg hS rfl rfl rfl fun W a b0 hS => st_box_agg hS rfl rfl rfl fun W a b1 hS => st_v hS rfl rfl (run_assign hS rfl) fun a hS => st_v hS rfl rfl (run_assign hS rfl) fun a hS => wl_nil ?_
 refine wpIn_seq ?_
 refine wpIn_region_lit ?_
 refine st_v hS rfl rfl (run_load_all (i := 1) Tryz.isAgg27 Tryz.sizeOf27 hS rfl rfl rfl) fun a hS => st_v hS rfl rfl (run_load_all (i := 0) Tryz.isAgg33 Tryz.sizeOf33 hS rfl rfl rfl) fun a hS => st_v hS rfl rfl (run_build (pv := [(0, .agg #[.slice _ _ _, .slice _ _ _, .slice _ _ _, .slice _ _ _, .slice _ _ _, .slice _ _ _, .slice _ _ _, .slice _ _ _, .slice _ _ _, .slice _ _ _, .slice _ _ _, .slice _ _ _, .slice _ _ _, .slice _ _ _, .slice _ _ _, .slice _ _ _, .slice _ _ _, .slice _ _ _, .slice _ _ _, .slice _ _ _, .slice _ _ _, .slice _ _ _, .slice _ _ _, .slice _ _ _, .int .i64 _, .int .i64 _]), (1, .agg #[.int .i64 _, .int .i64 _, .int .i64 _, .int .i64 _, .int .i64 _, .int .i64 _, .int .i64 _, .int .i64 _])]) (fun W => bd118_0_1 _ _ _ _ _ _ _ _ _ _ _ _ _ _ _ _ _ _ _ _ _ _ _ _ _ _ _ _ _ _ _ _ _ _ _ _ _ _ _ _ _ _ _ _ _ _ _ _ _ _ _ _ _ _ _ _ _ _ _ _ _ _ _ _ _ _ _ _ _ _ _ _ _ _ _ _ _ _ _ _ _ _ W) hS rfl) fun a hS => st_alloc_agg Tryz.zeroValue118 hS rfl rfl fun W a b2 hS => st_store (cs' := [.slice Vr.hover.x.a r.hover.X.length Vr.hover.x.c, .slice Vr.hover.y.a r.hover.Y.length Vr.hover.y.c, .slice Vr.hover.v.a r.hover.V.length Vr.hover.v.c, .slice Vr.ground.x.a r.ground.X.length Vr.ground.x.c, .slice Vr.ground.y.a r.ground.Y.length Vr.ground.y.c, .slice Vr.ground.v.a r.ground.V.length Vr.ground.v.c, .slice Vr.level.x.a r.level.X.length Vr.level.x.c, .slice Vr.level.y.a r.level.Y.length Vr.level.y.c, .slice Vr.level.v.a r.level.V.length Vr.level.v.c, .slice Vr.power.x.a r.power.X.length Vr.power.x.c, .slice Vr.power.y.a r.power.Y.length Vr.power.y.c, .slice Vr.power.v.a r.power.V.length Vr.power.v.c, .slice Vr.never.x.a r.never.X.length Vr.never.x.c, .slice Vr.never.y.a r.never.Y.length Vr.never.y.c, .slice Vr.never.v.a r.never.V.length Vr.never.v.c, .slice Vr.low.x.a r.low.X.length Vr.low.x.c, .slice Vr.low.y.a r.low.Y.length Vr.low.y.c, .slice Vr.low.v.a r.low.V.length Vr.low.v.c, .slice Vr.high.x.a r.high.X.length Vr.high.x.c, .slice Vr.high.y.a r.high.Y.length Vr.high.y.c, .slice Vr.high.v.a r.high.V.length Vr.high.v.c, .slice Vr.glide.x.a r.glide.X.length Vr.glide.x.c, .slice Vr.glide.y.a r.glide.Y.length Vr.glide.y.c, .slice Vr.glide.v.a r.glide.V.length Vr.glide.v.c, .int .i64 r.climb, .int .i64 r.burn, .int .i64 A.weight.lo, .int .i64 A.weight.hi, .int .i64 A.temp.lo, .int .i64 A.temp.hi, .int .i64 A.height.lo, .int .i64 A.height.hi, .int .i64 A.wind.lo, .int .i64 A.wind.hi]) (i := 0) Tryz.sizeOf118 hS rfl rfl rfl rfl rfl rfl rfl rfl rfl fun W a hS => wl_nil ?_
 refine wpIn_seq ?_
 refine wpIn_seq ?_
 refine wpIn_region_lit ?_
 refine st_v hS rfl rfl (run_load_all (i := 0) Tryz.isAgg118 Tryz.sizeOf118 hS rfl rfl rfl) fun a hS => st_v hS rfl rfl (run_makeFunc hS rfl rfl) fun a hS => st_call (rotor_checkSpeeds (FL := Fr) Vr r A 110 [.pointer (some ⟨b2, 0, none⟩)] ([(⟨Vr.never, r.never, A.weight, A.temp⟩ : LookV)] : List LookV) (Hr _ hS.below) Tryz.call110 (fun W hb _ => rotor_fs1 _ _ _ _ (hS.cells (i := 0) rfl _ hb) (hr.move (keep_of (hS.below.trans (hb.mono hS.below.size))))) (Nat.le_of_ble_eq_true rfl) (fun hrok x hx => by
   rw [List.mem_singleton.1 hx]
   exact ⟨(Hr _ hS.below).never, (rot_p hrok).never.1⟩)) Tryz.call104 hS rfl rfl rfl fun v W a hR hB hlt hS => ?_
 rw [show errC r A ((([(⟨Vr.never, r.never, A.weight, A.temp⟩ : LookV)] : List LookV).all fun x => liesT x.t x.p x.q) && onBest r A) = errC r A (onFast r A) from errC_congr fun _ => by simp [onFast, Bool.and_comm]] at hR
 subst hR
 refine st_v hS rfl rfl (run_assign hS rfl) fun a hS => wl_nil ?_
 refine wpIn_seq ?_
 refine wpIn_region_lit ?_
 refine st_v hS rfl rfl (run_move hS rfl) fun a hS => st_v hS rfl rfl (run_bin hS rfl rfl rfl) fun a hS => wl_nil ?_
 refine st_cond hS rfl (fun hc1 => ?_) (fun hc1 => ?_)
 ·
  try simp only [ty] at hc1
  refine wpIn_seq ?_
  refine wpIn_region_lit ?_
  refine st_v hS rfl rfl (run_move hS rfl) fun a hS => st_v hS rfl rfl (run_assign hS rfl) fun a hS => st_v hS rfl rfl (run_assign hS rfl) fun a hS => wl_nil ?_
  refine wpIn_ret ?_
  repeat (first | refine q_ret ?_ | refine q_block_ret ?_)
  refine hS.done (res2 (fn := Tryz.f38) (r1 := .tmp 4) (r2 := .tmp 5) rfl (rv_tmp hS rfl) (rv_tmp hS rfl)) ?_
  have hE : fastE r A = errC r A (onFast r A) := by unfold fastE; rw [if_neg hc1]
  exact t2i (p := 0) (by rw [fastV, hE, if_neg hc1]) hE.symm
 ·
  try simp only [ty] at hc1
  obtain ⟨hrok, haok, hof⟩ := errC_ok hc1
  have hof2 := hof
  simp only [onFast, Bool.and_eq_true] at hof2
  obtain ⟨hob, hnv⟩ := hof2
  obtain ⟨hA1, hA2, hA3, hA4⟩ := (airOk_iff A).1 haok
  have hRp := rot_p hrok
  have hX := (tab_axes hRp.level.1).1
  have hlx : lastOf r.level.X = ix r.level.X (r.level.X.length - 1) := rfl
  have hx2 := hX.two; have hx12 := hX.most
  have hx0 := hX.low 0 (by omega); have hx1 : lastOf r.level.X ≤ 1000000 := hX.high (r.level.X.length - 1) (by omega)
  have hft := fastTop_le r A
  refine wpIn_skip ?_
  refine wpIn_seq ?_
  refine wpIn_region_lit ?_
  refine st_v hS rfl rfl (run_load_all (i := 0) Tryz.isAgg118 Tryz.sizeOf118 hS rfl rfl rfl) fun a hS => st_call (mach_speeds Vr r A (Hr _ hS.below) (by assumption) (by assumption)) Tryz.call106 hS rfl rfl rfl fun v W a hR hB hlt hS => ?_
  subst hR
  refine st_v hS rfl rfl (run_move hS rfl) fun a hS => st_v hS rfl rfl (run_extract hS rfl rfl) fun a hS => st_v hS rfl rfl (run_extract hS rfl rfl) fun a hS => st_v hS rfl rfl (run_assign hS rfl) fun a hS => st_v hS rfl rfl (run_assign hS rfl) fun a hS => wl_nil ?_
  refine wpIn_seq ?_
  refine wpIn_seq ?_
  refine wpIn_region_lit ?_
  refine st_v hS rfl rfl (run_move hS rfl) fun a hS => st_v hS rfl rfl (run_load_all (i := 0) Tryz.isAgg118 Tryz.sizeOf118 hS rfl rfl rfl) fun a hS => st_call (mach_never Vr r A (Hr _ hS.below)) Tryz.call111 hS rfl rfl rfl fun v W a hR hB hlt hS => ?_
  subst hR
  refine st_call (rotor_bound (⟨Vr.never, r.never, A.weight, A.temp⟩ : LookV) ((fun W hC => (Hr W hC).never) _ hS.below) (by exact hRp.never.1) (by exact hA1) (by exact hA2) (by exact hnv)) Tryz.call95 hS rfl rfl rfl fun v W a hR hB hlt hS => ?_
  subst hR
  refine st_v hS rfl rfl (run_field (fun W => fd31_0 _ _ W) hS rfl) fun a hS => st_v hS rfl rfl (run_min hS rfl rfl) fun a hS => st_v hS rfl rfl (run_assign hS rfl) fun a hS => wl_nil ?_
  refine wpIn_block ?_
  refine st_loop2 (α := Int) (fun sp => [(10, .int .i64 sp)]) [(0, _), (1, _), (2, _), (3, _), (6, _), (7, _), (8, _), (9, _)] (fun l _ => l) (fun sp => sp ≤ fastTop r A ∧ ∀ j, sp < j → j ≤ fastTop r A → rateOf r A j < 0) (fun sp => (sp - ix r.level.X 0 + 1).toNat) (fastTop r A) hS (Sub.cons rfl (Sub.cons rfl (Sub.cons rfl (Sub.cons rfl (Sub.cons rfl (Sub.cons rfl (Sub.cons rfl (Sub.cons rfl (Sub.cons rfl Sub.nil))))))))) rfl (⟨Int.le_refl _, fun j h1 h2 => by omega⟩) (fun sp W a hφ hS => ?_)
  dsimp only [setB, List.cons_append, List.nil_append, List.take] at hS
  obtain ⟨hi, hno⟩ := hφ
  have hrt := best_rate (s := sp) hrok hob
  refine wpIn_seq ?_
  refine wpIn_seq ?_
  refine wpIn_region_lit ?_
  refine st_v hS rfl rfl (run_move hS rfl) fun a hS => st_v hS rfl rfl (run_move hS rfl) fun a hS => st_v hS rfl rfl (run_bin hS rfl rfl rfl) fun a hS => wl_nil ?_
  refine st_cond hS rfl (fun hc2 => ?_) (fun hc2 => ?_)
  ·
   try simp only [ty] at hc2
   
   refine wpIn_skip ?_
   refine wpIn_seq ?_
   refine wpIn_block ?_
   refine wpIn_seq ?_
   refine wpIn_region_lit ?_
   refine st_v hS rfl rfl (run_load_all (i := 0) Tryz.isAgg118 Tryz.sizeOf118 hS rfl rfl rfl) fun a hS => st_v hS rfl rfl (run_move hS rfl) fun a hS => st_call (mach_rate Vr r A (Hr _ hS.below) (by assumption) (by assumption) (by exact hrt (by omega) (by omega))) Tryz.call107 hS rfl rfl rfl fun v W a hR hB hlt hS => ?_
   subst hR
   refine st_v hS rfl rfl (run_bin hS rfl rfl rfl) fun a hS => wl_nil ?_
   refine st_cond hS rfl (fun hc3 => ?_) (fun hc3 => ?_)
   ·
    try simp only [ty] at hc3
    refine wpIn_seq ?_
    refine wpIn_region_lit ?_
    refine st_v hS rfl rfl (run_move hS rfl) fun a hS => st_v hS rfl rfl (run_assign hS rfl) fun a hS => st_v hS rfl rfl (run_assign hS rfl) fun a hS => wl_nil ?_
    refine wpIn_ret ?_
    repeat (first | refine q_ret ?_ | refine q_block_ret ?_)
    refine hS.done (res2 (fn := Tryz.f38) (r1 := .tmp 4) (r2 := .tmp 5) rfl (rv_tmp hS rfl) (rv_tmp hS rfl)) ?_
    obtain ⟨e1, e2⟩ := fast_hit hc1 (by omega) hi (by omega) hno
    exact t2i e2.symm e1.symm
   ·
    try simp only [ty] at hc3
    refine wpIn_skip ?_
    refine wpIn_region_lit ?_
    refine st_v hS rfl rfl (run_move hS rfl) fun a hS => st_v hS rfl rfl (run_sub (t := sp - 1) hS rfl rfl (rfl) (by omega) (by omega)) fun a hS => st_v hS rfl rfl (run_assign hS rfl) fun a hS => wl_nil ?_
    refine ⟨sp - 1, ⟨⟨by omega, fun j h1 h2 => ?_⟩, by omega⟩, (hS.sub (Sub.cons rfl (Sub.cons rfl (Sub.cons rfl (Sub.cons rfl (Sub.cons rfl (Sub.cons rfl (Sub.cons rfl (Sub.cons rfl (Sub.cons rfl Sub.nil))))))))))⟩
    by_cases e : j = sp
    · subst e; omega
    · exact hno j (by omega) h2
  ·
   try simp only [ty] at hc2
   
   refine wpIn_exit ?_
   refine wpIn_seq ?_
   refine wpIn_region_lit ?_
   refine st_v hS rfl rfl (run_assign hS rfl) fun a hS => st_v hS rfl rfl (run_assign hS rfl) fun a hS => wl_nil ?_
   refine wpIn_ret ?_
   repeat (first | refine q_ret ?_ | refine q_block_ret ?_)
   refine hS.done (res2 (fn := Tryz.f38) (r1 := .tmp 4) (r2 := .tmp 5) rfl (rv_tmp hS rfl) (rv_tmp hS rfl)) ?_
   obtain ⟨e1, e2⟩ := fast_none hc1 (fun j h1 h2 => hno j (by omega) h2)
   exact t2i e2.symm e1.symm


set_option maxHeartbeats 8000000 in
set_option maxRecDepth 100000 in
theorem ref02_Fast  (Vr : RV) (r : Rot) (A : Air) {w : World} {Fr : Nat → Prop} (hr : RotR Fr w Vr r)  : Ret Tryz.prog 39 [.agg (rotC Vr r).toArray, .agg (airC A).toArray] w (fun v _ => v = .tuple #[.int .i64 (fastV r A), .int .i64 (fastE r A)]) := by
 refine ret_start (n := 60) Tryz.func39 rfl rfl rfl (fun a hS => ?_)
 have Hr : ∀ W, Below w.heap.size w W → RotR Fr W Vr r := fun W hb => hr.move (keep_of hb)
 refine wpIn_seq ?_
 refine wpIn_region_lit ?_
 refine st_box_agg hS rfl rfl rfl fun W a b0 hS => st_box_agg hS rfl rfl rfl fun W a b1 hS => st_v hS rfl rfl (run_assign hS rfl) fun a hS => st_v hS rfl rfl (run_assign hS rfl) fun a hS => wl_nil ?_
 refine wpIn_seq ?_
 refine wpIn_region_lit ?_
 refine st_v hS rfl rfl (run_load_all (i := 1) Tryz.isAgg27 Tryz.sizeOf27 hS rfl rfl rfl) fun a hS => st_v hS rfl rfl (run_load_all (i := 0) Tryz.isAgg33 Tryz.sizeOf33 hS rfl rfl rfl) fun a hS => st_call (ref02_checkSpeeds Vr r A (Hr _ hS.below)) Tryz.call108 hS rfl rfl rfl fun v W a hR hB hlt hS => ?_
 subst hR
 refine st_v hS rfl rfl (run_assign hS rfl) fun a hS => wl_nil ?_
 refine wpIn_seq ?_
 refine wpIn_seq ?_
 refine wpIn_region_lit ?_
 refine st_v hS rfl rfl (run_move hS rfl) fun a hS => st_v hS rfl rfl (run_bin hS rfl rfl rfl) fun a hS => wl_nil ?_
 refine st_cond hS rfl (fun hc1 => ?_) (fun hc1 => ?_)
 ·
  try simp only [ty] at hc1
  refine wpIn_seq ?_
  refine wpIn_region_lit ?_
  refine st_v hS rfl rfl (run_move hS rfl) fun a hS => st_v hS rfl rfl (run_assign hS rfl) fun a hS => st_v hS rfl rfl (run_assign hS rfl) fun a hS => wl_nil ?_
  refine wpIn_ret ?_
  repeat (first | refine q_ret ?_ | refine q_block_ret ?_)
  refine hS.done (res2 (fn := Tryz.f39) (r1 := .tmp 4) (r2 := .tmp 5) rfl (rv_tmp hS rfl) (rv_tmp hS rfl)) ?_
  have hE : errC r A (onFast r A) = errC r A (onBest r A) := errC_andN hc1
  have hE2 : fastE r A = errC r A (onBest r A) := by unfold fastE; rw [hE, if_neg hc1]
  exact t2i (p := 0) (by rw [fastV, hE2, if_neg hc1]) hE2.symm
 ·
  try simp only [ty] at hc1
  obtain ⟨hrok, haok, hob⟩ := errC_ok hc1
  obtain ⟨hA1, hA2, hA3, hA4⟩ := (airOk_iff A).1 haok
  have hRp := rot_p hrok
  refine wpIn_skip ?_
  refine wpIn_seq ?_
  refine wpIn_seq ?_
  refine wpIn_region_lit ?_
  refine st_v hS rfl rfl (run_fieldAddr fa27_4 hS rfl) fun a hS => st_v hS rfl rfl (run_load_agg (i := 1) (vs := [_, _, _]) Tryz.isAgg25 Tryz.sizeOf25 hS rfl rfl rfl ⟨rfl, rfl, rfl, trivial⟩) fun a hS => st_v hS rfl rfl (run_fieldAddr fa33_0 hS rfl) fun a hS => st_v hS rfl rfl (run_load_agg (i := 0) (vs := [_, _]) Tryz.isAgg31 Tryz.sizeOf31 hS rfl rfl rfl ⟨rfl, rfl, trivial⟩) fun a hS => st_v hS rfl rfl (run_fieldAddr fa33_1 hS rfl) fun a hS => st_v hS rfl rfl (run_load_agg (i := 0) (vs := [_, _]) Tryz.isAgg31 Tryz.sizeOf31 hS rfl rfl rfl ⟨rfl, rfl, trivial⟩) fun a hS => st_call (ref02_lies Vr.never r.never A.weight A.temp ((fun W hC => (Hr W hC).never) _ hS.below) (by exact hRp.never.1)) Tryz.call112 hS rfl rfl rfl fun v W a hR hB hlt hS => ?_
  subst hR
  refine st_v hS rfl rfl (run_not hS rfl) fun a hS => wl_nil ?_
  refine st_cond hS rfl (fun hc2 => ?_) (fun hc2 => ?_)
  ·
   try simp only [ty] at hc2
   refine wpIn_seq ?_
   refine wpIn_region_lit ?_
   refine st_v hS rfl rfl (run_assign hS rfl) fun a hS => st_v hS rfl rfl (run_assign hS rfl) fun a hS => wl_nil ?_
   refine wpIn_ret ?_
   repeat (first | refine q_ret ?_ | refine q_block_ret ?_)
   refine hS.done (res2 (fn := Tryz.f39) (r1 := .tmp 4) (r2 := .tmp 5) rfl (rv_tmp hS rfl) (rv_tmp hS rfl)) ?_
   have hE : errC r A (onFast r A) = 1 := errC_tf hrok haok (by revert hc2; unfold onFast; cases liesT r.never A.weight A.temp <;> simp [hA1, hA2])
   have hE2 : fastE r A = 1 := by unfold fastE; rw [hE]; rfl
   exact t2i (p := 0) (by rw [fastV, hE2]; rfl) hE2.symm
  ·
   try simp only [ty] at hc2
   have hnv : liesT r.never A.weight A.temp = true := by
     revert hc2; cases liesT r.never A.weight A.temp <;> simp [hA1, hA2]
   have hF0 : errC r A (onFast r A) = 0 := errC_tt hrok haok (by simp [onFast, hob, hnv])
   have hX := (tab_axes hRp.level.1).1
   have hlx : lastOf r.level.X = ix r.level.X (r.level.X.length - 1) := rfl
   have hx2 := hX.two; have hx12 := hX.most
   have hx0 := hX.low 0 (by omega); have hx1 : lastOf r.level.X ≤ 1000000 := hX.high (r.level.X.length - 1) (by omega)
   have hft := fastTop_le r A
   refine wpIn_skip ?_
   refine wpIn_seq ?_
   refine wpIn_region_lit ?_
   refine st_v hS rfl rfl (run_fieldAddr fa27_2 hS rfl) fun a hS => st_v hS rfl rfl (run_fieldAddr fa25_0 hS rfl) fun a hS => st_v hS rfl rfl (run_load_one (i := 1) Tryz.isAgg22 hS rfl rfl rfl) fun a hS => st_v hS rfl rfl (run_assign hS rfl) fun a hS => wl_nil ?_
   refine wpIn_seq ?_
   refine wpIn_seq ?_
   have hlt0 := fun B hB => hS.lt (b := B) hB
   refine st_mix (k := 16) (by kernel_rfl) (by kernel_rfl) hS rfl rfl ?_
   refine mx_v (fun a W hS hB => run_move hS rfl) <| mx_v (fun a W hS hB => run_move hS rfl) <| mx_v (fun a W hS hB => run_len_slice Tryz.underlying22 hS rfl) <| mx_v (fun a W hS hB => run_sub (t := ((r.level.X.length - 1 : Nat) : Int)) hS rfl rfl (by omega) (by omega) (by omega)) <| ?_
   obtain ⟨ad0, hA0, hL0⟩ := sl_int (fun W hC => ((fun W hC => (Hr W hC).level) W hC).1) (Below.refl _ _) (i := ((r.level.X.length - 1 : Nat) : Int)) (j := r.level.X.length - 1) (by omega) (by omega)
   refine mx_v (fun a W hS hB => run_indexAddr Tryz.underlying22 Tryz.sizeOf3 hS rfl rfl hA0 (by omega) (by omega)) <| mx_v (fun a W hS hB => run_load_cell Tryz.isAgg3 hS rfl (hL0 _ hS.below)) <| mx_v (fun a W hS hB => run_fieldAddr fa27_4 hS rfl) <| mx_v (fun a W hS hB => run_load_agg (i := 1) (vs := [_, _, _]) Tryz.isAgg25 Tryz.sizeOf25 hS rfl rfl rfl ⟨rfl, rfl, rfl, trivial⟩) <| mx_v (fun a W hS hB => run_fieldAddr fa33_0 hS rfl) <| mx_v (fun a W hS hB => run_load_agg (i := 0) (vs := [_, _]) Tryz.isAgg31 Tryz.sizeOf31 hS rfl rfl rfl ⟨rfl, rfl, trivial⟩) <| mx_v (fun a W hS hB => run_fieldAddr fa33_1 hS rfl) <| mx_v (fun a W hS hB => run_load_agg (i := 0) (vs := [_, _]) Tryz.isAgg31 Tryz.sizeOf31 hS rfl rfl rfl ⟨rfl, rfl, trivial⟩) <| mx_call Tryz.call113 rfl (fun a W hS hB => ref02_bound Vr.never r.never A.weight A.temp ((fun W hC => (Hr W hC).never) _ hS.below) (by exact hRp.never.1) (by exact hA1) (by exact hA2) (by exact hnv)) <| mx_v (fun a W hS hB => run_field (fun W => fd31_0 _ _ W) hS rfl) <| mx_v (fun a W hS hB => run_min hS rfl rfl) <| mx_v (fun a W hS hB => run_assign hS rfl) <| ?_
   refine mx_end fun a W bs us hS hB hL => ?_
   dsimp only [kall, ball, List.cons_append, List.nil_append] at hS
   refine wl_nil ?_
   have hS := hS.sub (κ' := [(0, _), (1, _), (2, _), (3, _), (4, _), (5, _), (6, _), (7, _), (8, _)]) (Sub.cons rfl (Sub.cons rfl (Sub.cons rfl (Sub.cons rfl (Sub.cons rfl (Sub.cons rfl (Sub.cons rfl (Sub.cons rfl (Sub.cons rfl Sub.nil)))))))))
   refine wpIn_block ?_
   refine st_loop2 (α := Int) (fun sp => [(8, .int .i64 sp)]) [(0, _), (1, _), (2, _), (3, _), (6, _), (7, _)] (fun l _ => l) (fun sp => sp ≤ fastTop r A ∧ ∀ j, sp < j → j ≤ fastTop r A → rateOf r A j < 0) (fun sp => (sp - ix r.level.X 0 + 1).toNat) (fastTop r A) hS (Sub.cons rfl (Sub.cons rfl (Sub.cons rfl (Sub.cons rfl (Sub.cons rfl (Sub.cons rfl (Sub.cons rfl Sub.nil))))))) rfl (⟨Int.le_refl _, fun j h1 h2 => by omega⟩) (fun sp W a hφ hS => ?_)
   dsimp only [setB, List.cons_append, List.nil_append, List.take] at hS
   obtain ⟨hi, hno⟩ := hφ
   have hrt := best_rate (s := sp) hrok hob
   refine wpIn_seq ?_
   refine wpIn_seq ?_
   refine wpIn_region_lit ?_
   refine st_v hS rfl rfl (run_move hS rfl) fun a hS => st_v hS rfl rfl (run_move hS rfl) fun a hS => ?_
   obtain ⟨ad1, hA1, hL1⟩ := sl_int (fun W hC => ((fun W hC => (Hr W hC).level) W hC).1) (Below.refl _ _) (i := 0) (j := 0) (by omega) (by omega)
   refine st_v hS rfl rfl (run_indexAddr Tryz.underlying22 Tryz.sizeOf3 hS rfl rfl hA1 (by omega) (by omega)) fun a hS => st_v hS rfl rfl (run_load_cell Tryz.isAgg3 hS rfl (hL1 _ hS.below)) fun a hS => st_v hS rfl rfl (run_bin hS rfl rfl rfl) fun a hS => wl_nil ?_
   refine st_cond hS rfl (fun hc3 => ?_) (fun hc3 => ?_)
   ·
    try simp only [ty] at hc3
    
    refine wpIn_skip ?_
    refine wpIn_seq ?_
    refine wpIn_block ?_
    refine wpIn_seq ?_
    refine wpIn_region_lit ?_
    refine st_v hS rfl rfl (run_load_all (i := 1) Tryz.isAgg27 Tryz.sizeOf27 hS rfl rfl rfl) fun a hS => st_v hS rfl rfl (run_load_all (i := 0) Tryz.isAgg33 Tryz.sizeOf33 hS rfl rfl rfl) fun a hS => st_v hS rfl rfl (run_move hS rfl) fun a hS => st_call (ref02_Rate Vr r A (n := sp) (Hr _ hS.below)) Tryz.call109 hS rfl rfl rfl fun v W a hR hB hlt hS => ?_
    have hE := errC_of hrok haok (hrt (by omega) (by omega))
    rw [if_pos hE, hE] at hR
    subst hR
    refine st_v hS rfl rfl (run_move hS rfl) fun a hS => st_v hS rfl rfl (run_extract hS rfl rfl) fun a hS => st_v hS rfl rfl (run_extract hS rfl rfl) fun a hS => st_v hS rfl rfl (run_assign hS rfl) fun a hS => st_v hS rfl rfl (run_assign hS rfl) fun a hS => wl_nil ?_
    refine wpIn_seq ?_
    refine wpIn_region_lit ?_
    refine st_v hS rfl rfl (run_move hS rfl) fun a hS => st_v hS rfl rfl (run_bin hS rfl rfl rfl) fun a hS => wl_nil ?_
    refine st_cond hS rfl (fun hc4 => ?_) (fun hc4 => ?_)
    ·
     try simp only [ty] at hc4
     refine wpIn_seq ?_
     refine wpIn_region_lit ?_
     refine st_v hS rfl rfl (run_move hS rfl) fun a hS => st_v hS rfl rfl (run_assign hS rfl) fun a hS => st_v hS rfl rfl (run_assign hS rfl) fun a hS => wl_nil ?_
     refine wpIn_ret ?_
     repeat (first | refine q_ret ?_ | refine q_block_ret ?_)
     refine hS.done (res2 (fn := Tryz.f39) (r1 := .tmp 4) (r2 := .tmp 5) rfl (rv_tmp hS rfl) (rv_tmp hS rfl)) ?_
     obtain ⟨e1, e2⟩ := fast_hit hF0 (by omega) hi (by omega) hno
     exact t2i e2.symm e1.symm
    ·
     try simp only [ty] at hc4
     refine wpIn_skip ?_
     refine wpIn_region_lit ?_
     refine st_v hS rfl rfl (run_move hS rfl) fun a hS => st_v hS rfl rfl (run_sub (t := sp - 1) hS rfl rfl (rfl) (by omega) (by omega)) fun a hS => st_v hS rfl rfl (run_assign hS rfl) fun a hS => wl_nil ?_
     refine ⟨sp - 1, ⟨⟨by omega, fun j h1 h2 => ?_⟩, by omega⟩, (hS.sub (Sub.cons rfl (Sub.cons rfl (Sub.cons rfl (Sub.cons rfl (Sub.cons rfl (Sub.cons rfl (Sub.cons rfl Sub.nil))))))))⟩
     by_cases e : j = sp
     · subst e; omega
     · exact hno j (by omega) h2
   ·
    try simp only [ty] at hc3
    
    refine wpIn_exit ?_
    refine wpIn_seq ?_
    refine wpIn_region_lit ?_
    refine st_v hS rfl rfl (run_assign hS rfl) fun a hS => st_v hS rfl rfl (run_assign hS rfl) fun a hS => wl_nil ?_
    refine wpIn_ret ?_
    repeat (first | refine q_ret ?_ | refine q_block_ret ?_)
    refine hS.done (res2 (fn := Tryz.f39) (r1 := .tmp 4) (r2 := .tmp 5) rfl (rv_tmp hS rfl) (rv_tmp hS rfl)) ?_
    obtain ⟨e1, e2⟩ := fast_none hF0 (fun j h1 h2 => hno j (by omega) h2)
    exact t2i e2.symm e1.symm


set_option maxHeartbeats 4000000 in
set_option maxRecDepth 100000 in
theorem law02_Wide  (Vr : RV) (r : Rot) {w : World} {Fr : Nat → Prop} (hr : RotR Fr w Vr r)  : Ret Tryz.prog 33 [.agg (rotC Vr r).toArray] w (fun v _ => v = .bool (decide (rotOk r = true ∧ 3000 < lastOf r.level.X - ix r.level.X 0))) := by
 refine ret_start (n := 25) Tryz.func33 rfl rfl rfl (fun a hS => ?_)
 have Hr : ∀ W, Below w.heap.size w W → RotR Fr W Vr r := fun W hb => hr.move (keep_of hb)
 have hX : rotOk r = true → Axis r.level.X := fun h => (tab_axes (rot_p h).level.1).1
 refine wpIn_seq ?_
 refine wpIn_region_lit ?_
 refine st_box_agg hS rfl rfl rfl fun W a b0 hS => st_v hS rfl rfl (run_assign hS rfl) fun a hS => wl_nil ?_
 refine wpIn_seq ?_
 refine st_draw (by kernel_rfl) (by kernel_rfl) hS ?_
 refine qt_v hS rfl rfl (fun W hB hS => run_load_all (i := 0) Tryz.isAgg27 Tryz.sizeOf27 hS rfl rfl rfl) fun a hS => qt_call hS rfl rfl Tryz.call99 rfl (fun W hB hS => ref02_Check Vr r (Hr _ hS.below)) fun a hS => qt_v hS rfl rfl (fun W hB hS => run_bin hS rfl rfl rfl) fun a hS => qt_v hS rfl rfl (fun W hB hS => run_move hS rfl) fun a hS => ?_
 refine st_split (d := 6) hS rfl (fun hc1 hS => ?_) (fun hc1 hS => ?_)
 ·
  try simp only [ty] at hc1
  have hrok := chk_ok hc1
  have hx2 := (hX hrok).two; have hx12 := (hX hrok).most
  have hx0 := (hX hrok).low 0 (by omega); have hx1 := (hX hrok).high 0 (by omega); have hy0 := (hX hrok).low (r.level.X.length - 1) (by omega); have hy1 := (hX hrok).high (r.level.X.length - 1) (by omega)
  have hlx : lastOf r.level.X = ix r.level.X (r.level.X.length - 1) := rfl
  refine qt_v hS (hS.wanted rfl rfl rfl) rfl (fun W hB hS => run_fieldAddr fa27_2 hS rfl) fun a hS => qt_v hS (hS.wanted rfl rfl rfl) rfl (fun W hB hS => run_fieldAddr fa25_0 hS rfl) fun a hS => qt_v hS (hS.wanted rfl rfl rfl) rfl (fun W hB hS => run_load_one (i := 0) Tryz.isAgg22 hS rfl rfl rfl) fun a hS => qt_v hS (hS.wanted rfl rfl rfl) rfl (fun W hB hS => run_fieldAddr fa27_2 hS rfl) fun a hS => qt_v hS (hS.wanted rfl rfl rfl) rfl (fun W hB hS => run_fieldAddr fa25_0 hS rfl) fun a hS => qt_v hS (hS.wanted rfl rfl rfl) rfl (fun W hB hS => run_load_one (i := 0) Tryz.isAgg22 hS rfl rfl rfl) fun a hS => qt_v hS (hS.wanted rfl rfl rfl) rfl (fun W hB hS => run_len_slice Tryz.underlying22 hS rfl) fun a hS => qt_v hS (hS.wanted rfl rfl rfl) rfl (fun W hB hS => run_sub (t := ((r.level.X.length - 1 : Nat) : Int)) hS rfl rfl (by omega) (by omega) (by omega)) fun a hS => ?_
  obtain ⟨ad0, hA0, hL0⟩ := sl_int (fun W hC => ((fun W hC => (Hr W hC).level) W hC).1) (Below.refl _ _) (i := ((r.level.X.length - 1 : Nat) : Int)) (j := r.level.X.length - 1) (by omega) (by omega)
  refine qt_v hS (hS.wanted rfl rfl rfl) rfl (fun W hB hS => run_indexAddr Tryz.underlying22 Tryz.sizeOf3 hS rfl rfl hA0 (by omega) (by omega)) fun a hS => qt_v hS (hS.wanted rfl rfl rfl) rfl (fun W hB hS => run_load_cell Tryz.isAgg3 hS rfl (hL0 _ hS.below)) fun a hS => qt_v hS (hS.wanted rfl rfl rfl) rfl (fun W hB hS => run_fieldAddr fa27_2 hS rfl) fun a hS => qt_v hS (hS.wanted rfl rfl rfl) rfl (fun W hB hS => run_fieldAddr fa25_0 hS rfl) fun a hS => qt_v hS (hS.wanted rfl rfl rfl) rfl (fun W hB hS => run_load_one (i := 0) Tryz.isAgg22 hS rfl rfl rfl) fun a hS => ?_
  obtain ⟨ad1, hA1, hL1⟩ := sl_int (fun W hC => ((fun W hC => (Hr W hC).level) W hC).1) (Below.refl _ _) (i := 0) (j := 0) (by omega) (by omega)
  refine qt_v hS (hS.wanted rfl rfl rfl) rfl (fun W hB hS => run_indexAddr Tryz.underlying22 Tryz.sizeOf3 hS rfl rfl hA1 (by omega) (by omega)) fun a hS => qt_v hS (hS.wanted rfl rfl rfl) rfl (fun W hB hS => run_load_cell Tryz.isAgg3 hS rfl (hL1 _ hS.below)) fun a hS => qt_v hS (hS.wanted rfl rfl rfl) rfl (fun W hB hS => run_sub (t := ((ix r.level.X (r.level.X.length - 1))) - ((ix r.level.X (0)))) hS rfl rfl (rfl) (by omega) (by omega)) fun a hS => qt_v hS (hS.wanted rfl rfl rfl) rfl (fun W hB hS => run_bin hS rfl rfl rfl) fun a hS => qt_v hS rfl rfl (fun W hB hS => run_pick_t hS rfl rfl) fun a hS => qt_v hS rfl rfl (fun W hB hS => run_assign hS rfl) fun a hS => qt_nil hS fun W hS => ?_
  refine wpIn_ret ?_
  repeat (first | refine q_ret ?_ | refine q_block_ret ?_)
  refine hS.done (res1 (fn := Tryz.f33) (r1 := .tmp 2) rfl (rv_tmp hS rfl)) ?_
  refine vb ?_; simp [hrok, hlx]
 ·
  try simp only [ty] at hc1
  refine qt_skip hS (hS.unwanted rfl rfl rfl rfl) rfl fun a hS => qt_skip hS (hS.unwanted rfl rfl rfl rfl) rfl fun a hS => qt_skip hS (hS.unwanted rfl rfl rfl rfl) rfl fun a hS => qt_skip hS (hS.unwanted rfl rfl rfl rfl) rfl fun a hS => qt_skip hS (hS.unwanted rfl rfl rfl rfl) rfl fun a hS => qt_skip hS (hS.unwanted rfl rfl rfl rfl) rfl fun a hS => qt_skip hS (hS.unwanted rfl rfl rfl rfl) rfl fun a hS => qt_skip hS (hS.unwanted rfl rfl rfl rfl) rfl fun a hS => qt_skip hS (hS.unwanted rfl rfl rfl rfl) rfl fun a hS => qt_skip hS (hS.unwanted rfl rfl rfl rfl) rfl fun a hS => qt_skip hS (hS.unwanted rfl rfl rfl rfl) rfl fun a hS => qt_skip hS (hS.unwanted rfl rfl rfl rfl) rfl fun a hS => qt_skip hS (hS.unwanted rfl rfl rfl rfl) rfl fun a hS => qt_skip hS (hS.unwanted rfl rfl rfl rfl) rfl fun a hS => qt_skip hS (hS.unwanted rfl rfl rfl rfl) rfl fun a hS => qt_skip hS (hS.unwanted rfl rfl rfl rfl) rfl fun a hS => qt_skip hS (hS.unwanted rfl rfl rfl rfl) rfl fun a hS => qt_v hS rfl rfl (fun W hB hS => run_pick_f hS rfl rfl) fun a hS => qt_v hS rfl rfl (fun W hB hS => run_assign hS rfl) fun a hS => qt_nil hS fun W hS => ?_
  refine wpIn_ret ?_
  repeat (first | refine q_ret ?_ | refine q_block_ret ?_)
  refine hS.done (res1 (fn := Tryz.f33) (r1 := .tmp 2) rfl (rv_tmp hS rfl)) ?_
  refine vb ?_; simp [chk_no hc1]


set_option maxHeartbeats 8000000 in
set_option maxRecDepth 100000 in
theorem law_RotorBest  (Vr : RV) (r : Rot) (A : Air) {n : Int} {w : World} {Fr : Nat → Prop} (hr : RotR Fr w Vr r)  : Ret Tryz.prog 5 [.agg (rotC Vr r).toArray, .agg (airC A).toArray, .int .i64 n] w (fun v _ => v = .bool true) := by
 refine ret_start (n := 146) Tryz.func5 rfl rfl rfl (fun a hS => ?_)
 have Hr : ∀ W, Below w.heap.size w W → RotR Fr W Vr r := fun W hb => hr.move (keep_of hb)
 refine wpIn_seq ?_
 refine wpIn_region_lit ?_
 refine st_box_agg hS rfl rfl rfl fun W a b0 hS => st_box_agg hS rfl rfl rfl fun W a b1 hS => st_v hS rfl rfl (run_assign hS rfl) fun a hS => wl_nil ?_
 refine wpIn_seq ?_
 refine wpIn_seq ?_
 refine wpIn_region_lit ?_
 refine st_v hS rfl rfl (run_load_all (i := 1) Tryz.isAgg27 Tryz.sizeOf27 hS rfl rfl rfl) fun a hS => st_call (law02_Far Vr r (Hr _ hS.below)) Tryz.call32 hS rfl rfl rfl fun v W a hR hB hlt hS => ?_
 subst hR
 refine st_v hS rfl rfl (run_move hS rfl) fun a hS => ?_
 refine st_split (d := 24) hS rfl (fun hc1 hS => ?_) (fun hc1 hS => ?_)
 ·
  try simp only [ty] at hc1
  refine st_skip hS (hS.unwanted rfl rfl rfl rfl) rfl fun a hS => st_skip hS (hS.unwanted rfl rfl rfl rfl) rfl fun a hS => st_v hS rfl rfl (run_pick_t hS rfl rfl) fun a hS => wl_nil ?_
  refine st_cond_t hS rfl ?_
  refine wpIn_seq ?_
  refine wpIn_region_lit ?_
  refine st_call (law02_works) Tryz.call34 hS rfl rfl rfl fun v W a hR hB hlt hS => ?_
  subst hR
  refine st_v hS rfl rfl (run_assign hS rfl) fun a hS => wl_nil ?_
  refine wpIn_ret ?_
  repeat (first | refine q_ret ?_ | refine q_block_ret ?_)
  refine hS.done (res1 (fn := Tryz.f5) (r1 := .tmp 6) rfl (rv_tmp hS rfl)) ?_
  rfl
 ·
  try simp only [ty] at hc1
  
  refine st_v hS (hS.wanted rfl rfl rfl) rfl (run_load_all (i := 1) Tryz.isAgg27 Tryz.sizeOf27 hS rfl rfl rfl) fun a hS => st_call (law02_Wide Vr r (Hr _ hS.below)) Tryz.call33 hS (hS.wanted rfl rfl rfl) rfl rfl fun v W a hR hB hlt hS => ?_
  subst hR
  refine st_v hS rfl rfl (run_pick_f hS rfl rfl) fun a hS => wl_nil ?_
  refine st_cond hS rfl (fun hc2 => ?_) (fun hc2 => ?_)
  ·
   try simp only [ty] at hc2
   refine wpIn_seq ?_
   refine wpIn_region_lit ?_
   refine st_call (law02_works) Tryz.call34 hS rfl rfl rfl fun v W a hR hB hlt hS => ?_
   subst hR
   refine st_v hS rfl rfl (run_assign hS rfl) fun a hS => wl_nil ?_
   refine wpIn_ret ?_
   repeat (first | refine q_ret ?_ | refine q_block_ret ?_)
   refine hS.done (res1 (fn := Tryz.f5) (r1 := .tmp 6) rfl (rv_tmp hS rfl)) ?_
   rfl
  ·
   try simp only [ty] at hc2
   
   refine wpIn_skip ?_
   refine wpIn_seq ?_
   refine wpIn_region_lit ?_
   refine st_v hS rfl rfl (run_load_all (i := 1) Tryz.isAgg27 Tryz.sizeOf27 hS rfl rfl rfl) fun a hS => ?_
   have hw0 := hS.below.size
   refine st_call (law02_own Vr r (Hr _ hS.below) (by exact farR_not hc1)) Tryz.call35 hS rfl rfl rfl fun v W a hR hB hlt hS => ?_
   
   obtain ⟨V0, rfl, hV0⟩ := hR
   have hS := hS.moreRot hw0 hlt hV0
   refine st_alloc_agg Tryz.zeroValue27 hS rfl rfl fun W a b2 hS => st_store (cs' := [.slice V0.hover.x.a r.hover.X.length V0.hover.x.c, .slice V0.hover.y.a r.hover.Y.length V0.hover.y.c, .slice V0.hover.v.a r.hover.V.length V0.hover.v.c, .slice V0.ground.x.a r.ground.X.length V0.ground.x.c, .slice V0.ground.y.a r.ground.Y.length V0.ground.y.c, .slice V0.ground.v.a r.ground.V.length V0.ground.v.c, .slice V0.level.x.a r.level.X.length V0.level.x.c, .slice V0.level.y.a r.level.Y.length V0.level.y.c, .slice V0.level.v.a r.level.V.length V0.level.v.c, .slice V0.power.x.a r.power.X.length V0.power.x.c, .slice V0.power.y.a r.power.Y.length V0.power.y.c, .slice V0.power.v.a r.power.V.length V0.power.v.c, .slice V0.never.x.a r.never.X.length V0.never.x.c, .slice V0.never.y.a r.never.Y.length V0.never.y.c, .slice V0.never.v.a r.never.V.length V0.never.v.c, .slice V0.low.x.a r.low.X.length V0.low.x.c, .slice V0.low.y.a r.low.Y.length V0.low.y.c, .slice V0.low.v.a r.low.V.length V0.low.v.c, .slice V0.high.x.a r.high.X.length V0.high.x.c, .slice V0.high.y.a r.high.Y.length V0.high.y.c, .slice V0.high.v.a r.high.V.length V0.high.v.c, .slice V0.glide.x.a r.glide.X.length V0.glide.x.c, .slice V0.glide.y.a r.glide.Y.length V0.glide.y.c, .slice V0.glide.v.a r.glide.V.length V0.glide.v.c, .int .i64 r.climb, .int .i64 r.burn]) (i := 0) Tryz.sizeOf27 hS rfl rfl rfl rfl rfl rfl rfl rfl rfl fun W a hS => wl_nil ?_
   refine wpIn_seq ?_
   refine wpIn_region_lit ?_
   refine st_v hS rfl rfl (run_load_all (i := 0) Tryz.isAgg27 Tryz.sizeOf27 hS rfl rfl rfl) fun a hS => st_v hS rfl rfl (run_load_all (i := 1) Tryz.isAgg33 Tryz.sizeOf33 hS rfl rfl rfl) fun a hS => st_call (rotor_Best V0 r A ((fun _ h => h) _ hS.now.2)) Tryz.call36 hS rfl rfl rfl fun v W a hR hB hlt hS => ?_
   subst hR
   refine st_v hS rfl rfl (run_move hS rfl) fun a hS => st_v hS rfl rfl (run_extract hS rfl rfl) fun a hS => st_v hS rfl rfl (run_extract hS rfl rfl) fun a hS => st_v hS rfl rfl (run_extract hS rfl rfl) fun a hS => st_v hS rfl rfl (run_assign hS rfl) fun a hS => st_v hS rfl rfl (run_assign hS rfl) fun a hS => st_v hS rfl rfl (run_assign hS rfl) fun a hS => wl_nil ?_
   refine wpIn_seq ?_
   refine wpIn_region_lit ?_
   refine st_v hS rfl rfl (run_load_all (i := 2) Tryz.isAgg27 Tryz.sizeOf27 hS rfl rfl rfl) fun a hS => st_v hS rfl rfl (run_load_all (i := 1) Tryz.isAgg33 Tryz.sizeOf33 hS rfl rfl rfl) fun a hS => st_call (ref02_Best Vr r A (Hr _ hS.below)) Tryz.call37 hS rfl rfl rfl fun v W a hR hB hlt hS => ?_
   subst hR
   refine st_v hS rfl rfl (run_move hS rfl) fun a hS => st_v hS rfl rfl (run_extract hS rfl rfl) fun a hS => st_v hS rfl rfl (run_extract hS rfl rfl) fun a hS => st_v hS rfl rfl (run_extract hS rfl rfl) fun a hS => st_v hS rfl rfl (run_assign hS rfl) fun a hS => st_v hS rfl rfl (run_assign hS rfl) fun a hS => st_v hS rfl rfl (run_assign hS rfl) fun a hS => wl_nil ?_
   refine wpIn_seq ?_
   refine wpIn_region_lit ?_
   refine st_v hS rfl rfl (run_load_all (i := 0) Tryz.isAgg27 Tryz.sizeOf27 hS rfl rfl rfl) fun a hS => st_v hS rfl rfl (run_load_all (i := 1) Tryz.isAgg33 Tryz.sizeOf33 hS rfl rfl rfl) fun a hS => st_call (rotor_Fast V0 r A ((fun _ h => h) _ hS.now.2)) Tryz.call38 hS rfl rfl rfl fun v W a hR hB hlt hS => ?_
   subst hR
   refine st_v hS rfl rfl (run_move hS rfl) fun a hS => st_v hS rfl rfl (run_extract hS rfl rfl) fun a hS => st_v hS rfl rfl (run_extract hS rfl rfl) fun a hS => st_v hS rfl rfl (run_assign hS rfl) fun a hS => st_v hS rfl rfl (run_assign hS rfl) fun a hS => wl_nil ?_
   have hS := hS.sub (κ' := [(0, _), (1, _), (2, _), (3, _), (4, _), (6, _), (7, _), (8, _), (9, _), (10, _), (11, _), (12, _), (13, _), (14, _), (15, _)]) (Sub.cons rfl (Sub.cons rfl (Sub.cons rfl (Sub.cons rfl (Sub.cons rfl (Sub.cons rfl (Sub.cons rfl (Sub.cons rfl (Sub.cons rfl (Sub.cons rfl (Sub.cons rfl (Sub.cons rfl (Sub.cons rfl (Sub.cons rfl (Sub.cons rfl Sub.nil)))))))))))))))
   refine wpIn_seq ?_
   refine wpIn_region_lit ?_
   refine st_v hS rfl rfl (run_load_all (i := 2) Tryz.isAgg27 Tryz.sizeOf27 hS rfl rfl rfl) fun a hS => st_v hS rfl rfl (run_load_all (i := 1) Tryz.isAgg33 Tryz.sizeOf33 hS rfl rfl rfl) fun a hS => st_call (ref02_Fast Vr r A (Hr _ hS.below)) Tryz.call39 hS rfl rfl rfl fun v W a hR hB hlt hS => ?_
   subst hR
   refine st_v hS rfl rfl (run_move hS rfl) fun a hS => st_v hS rfl rfl (run_extract hS rfl rfl) fun a hS => st_v hS rfl rfl (run_extract hS rfl rfl) fun a hS => st_v hS rfl rfl (run_assign hS rfl) fun a hS => st_v hS rfl rfl (run_assign hS rfl) fun a hS => wl_nil ?_
   refine wpIn_seq ?_
   refine wpIn_seq ?_
   refine wpIn_region_lit ?_
   refine st_v hS rfl rfl (run_move hS rfl) fun a hS => st_v hS rfl rfl (run_move hS rfl) fun a hS => st_v hS rfl rfl (run_bin hS rfl rfl rfl) fun a hS => st_v hS rfl rfl (run_move hS rfl) fun a hS => ?_
   refine st_split (d := 60) hS rfl (fun hc3 hS => ?_) (fun hc3 hS => ?_)
   ·
    try simp only [ty] at hc3
    simp at hc3
   ·
    try simp only [ty] at hc3
    
    refine st_v hS (hS.wanted rfl rfl rfl) rfl (run_move hS rfl) fun a hS => st_v hS (hS.wanted rfl rfl rfl) rfl (run_move hS rfl) fun a hS => st_v hS (hS.wanted rfl rfl rfl) rfl (run_bin hS rfl rfl rfl) fun a hS => st_v hS rfl rfl (run_pick_f hS rfl rfl) fun a hS => st_v hS rfl rfl (run_move hS rfl) fun a hS => ?_
    refine st_split (d := 65) hS rfl (fun hc4 hS => ?_) (fun hc4 hS => ?_)
    ·
     try simp only [ty] at hc4
     simp at hc4
    ·
     try simp only [ty] at hc4
     
     refine st_v hS (hS.wanted rfl rfl rfl) rfl (run_move hS rfl) fun a hS => st_v hS (hS.wanted rfl rfl rfl) rfl (run_move hS rfl) fun a hS => st_v hS (hS.wanted rfl rfl rfl) rfl (run_bin hS rfl rfl rfl) fun a hS => st_v hS rfl rfl (run_pick_f hS rfl rfl) fun a hS => st_v hS rfl rfl (run_move hS rfl) fun a hS => ?_
     refine st_split (d := 70) hS rfl (fun hc5 hS => ?_) (fun hc5 hS => ?_)
     ·
      try simp only [ty] at hc5
      simp at hc5
     ·
      try simp only [ty] at hc5
      
      refine st_v hS (hS.wanted rfl rfl rfl) rfl (run_move hS rfl) fun a hS => st_v hS (hS.wanted rfl rfl rfl) rfl (run_move hS rfl) fun a hS => st_v hS (hS.wanted rfl rfl rfl) rfl (run_bin hS rfl rfl rfl) fun a hS => st_v hS rfl rfl (run_pick_f hS rfl rfl) fun a hS => st_v hS rfl rfl (run_move hS rfl) fun a hS => ?_
      refine st_split (d := 75) hS rfl (fun hc6 hS => ?_) (fun hc6 hS => ?_)
      ·
       try simp only [ty] at hc6
       simp at hc6
      ·
       try simp only [ty] at hc6
       
       refine st_v hS (hS.wanted rfl rfl rfl) rfl (run_move hS rfl) fun a hS => st_v hS (hS.wanted rfl rfl rfl) rfl (run_move hS rfl) fun a hS => st_v hS (hS.wanted rfl rfl rfl) rfl (run_bin hS rfl rfl rfl) fun a hS => st_v hS rfl rfl (run_pick_f hS rfl rfl) fun a hS => wl_nil ?_
       have hS := hS.sub (κ' := [(0, _), (1, _), (2, _), (3, _), (4, _), (6, _), (7, _), (8, _), (9, _), (10, _), (11, _), (12, _), (13, _), (14, _), (15, _), (16, _), (17, _), (79, _)]) (Sub.cons rfl (Sub.cons rfl (Sub.cons rfl (Sub.cons rfl (Sub.cons rfl (Sub.cons rfl (Sub.cons rfl (Sub.cons rfl (Sub.cons rfl (Sub.cons rfl (Sub.cons rfl (Sub.cons rfl (Sub.cons rfl (Sub.cons rfl (Sub.cons rfl (Sub.cons rfl (Sub.cons rfl (Sub.cons rfl Sub.nil))))))))))))))))))
       refine st_cond hS rfl (fun hc7 => ?_) (fun hc7 => ?_)
       ·
        try simp only [ty] at hc7
        simp at hc7
       ·
        try simp only [ty] at hc7
        
        refine wpIn_skip ?_
        refine wpIn_seq ?_
        refine wpIn_region_lit ?_
        refine st_v hS rfl rfl (run_load_all (i := 0) Tryz.isAgg27 Tryz.sizeOf27 hS rfl rfl rfl) fun a hS => st_v hS rfl rfl (run_load_all (i := 1) Tryz.isAgg33 Tryz.sizeOf33 hS rfl rfl rfl) fun a hS => st_v hS rfl rfl (run_move hS rfl) fun a hS => st_call (rotor_Rate V0 r A ((fun _ h => h) _ hS.now.2)) Tryz.call40 hS rfl rfl rfl fun v W a hR hB hlt hS => ?_
        subst hR
        refine st_v hS rfl rfl (run_move hS rfl) fun a hS => st_v hS rfl rfl (run_extract hS rfl rfl) fun a hS => st_v hS rfl rfl (run_extract hS rfl rfl) fun a hS => st_v hS rfl rfl (run_assign hS rfl) fun a hS => st_v hS rfl rfl (run_assign hS rfl) fun a hS => wl_nil ?_
        refine wpIn_seq ?_
        refine wpIn_seq ?_
        refine wpIn_region_lit ?_
        refine st_v hS rfl rfl (run_move hS rfl) fun a hS => st_v hS rfl rfl (run_bin hS rfl rfl rfl) fun a hS => st_v hS rfl rfl (run_move hS rfl) fun a hS => ?_
        refine st_split (d := 89) hS rfl (fun hc8 hS => ?_) (fun hc8 hS => ?_)
        ·
         try simp only [ty] at hc8
         refine st_skip hS (hS.unwanted rfl rfl rfl rfl) rfl fun a hS => st_skip hS (hS.unwanted rfl rfl rfl rfl) rfl fun a hS => st_v hS rfl rfl (run_pick_t hS rfl rfl) fun a hS => wl_nil ?_
         refine st_cond_t hS rfl ?_
         refine wpIn_seq ?_
         refine wpIn_region_lit ?_
         refine st_call (law02_works) Tryz.call34 hS rfl rfl rfl fun v W a hR hB hlt hS => ?_
         subst hR
         refine st_v hS rfl rfl (run_assign hS rfl) fun a hS => wl_nil ?_
         refine wpIn_ret ?_
         repeat (first | refine q_ret ?_ | refine q_block_ret ?_)
         refine hS.done (res1 (fn := Tryz.f5) (r1 := .tmp 6) rfl (rv_tmp hS rfl)) ?_
         rfl
        ·
         try simp only [ty] at hc8
         
         refine st_v hS (hS.wanted rfl rfl rfl) rfl (run_move hS rfl) fun a hS => st_v hS (hS.wanted rfl rfl rfl) rfl (run_bin hS rfl rfl rfl) fun a hS => st_v hS rfl rfl (run_pick_f hS rfl rfl) fun a hS => wl_nil ?_
         refine st_cond hS rfl (fun hc9 => ?_) (fun hc9 => ?_)
         ·
          try simp only [ty] at hc9
          refine wpIn_seq ?_
          refine wpIn_region_lit ?_
          refine st_call (law02_works) Tryz.call34 hS rfl rfl rfl fun v W a hR hB hlt hS => ?_
          subst hR
          refine st_v hS rfl rfl (run_assign hS rfl) fun a hS => wl_nil ?_
          refine wpIn_ret ?_
          repeat (first | refine q_ret ?_ | refine q_block_ret ?_)
          refine hS.done (res1 (fn := Tryz.f5) (r1 := .tmp 6) rfl (rv_tmp hS rfl)) ?_
          rfl
         ·
          try simp only [ty] at hc9
          have hbE : bestE r A = 0 := hc8
          have hrE : errC r A (onRate r A n) = 0 := hc9
          obtain ⟨hrok, haok, hor⟩ := errC_ok hrE
          obtain ⟨hn1, hn2⟩ := rate_on hor
          have hRV : rateV r A n = rateOf r A n := if_pos hrE
          have hbt := best_top hbE hn1 hn2
          rw [← hRV] at hbt
          refine wpIn_skip ?_
          refine wpIn_seq ?_
          refine wpIn_seq ?_
          refine wpIn_region_lit ?_
          refine st_v hS rfl rfl (run_move hS rfl) fun a hS => st_v hS rfl rfl (run_move hS rfl) fun a hS => st_v hS rfl rfl (run_bin hS rfl rfl rfl) fun a hS => st_v hS rfl rfl (run_move hS rfl) fun a hS => ?_
          refine st_split (d := 97) hS rfl (fun hc10 hS => ?_) (fun hc10 hS => ?_)
          ·
           try simp only [ty] at hc10
           omega
          ·
           try simp only [ty] at hc10
           
           refine st_v hS (hS.wanted rfl rfl rfl) rfl (run_move hS rfl) fun a hS => st_v hS (hS.wanted rfl rfl rfl) rfl (run_move hS rfl) fun a hS => st_v hS (hS.wanted rfl rfl rfl) rfl (run_bin hS rfl rfl rfl) fun a hS => st_v hS (hS.wanted rfl rfl rfl) rfl (run_move hS rfl) fun a hS => ?_
           refine st_split (d := 101) hS rfl (fun hc11 hS => ?_) (fun hc11 hS => ?_)
           ·
            try simp only [ty] at hc11
            
            refine st_v hS (hS.wanted rfl rfl rfl) rfl (run_move hS rfl) fun a hS => st_v hS (hS.wanted rfl rfl rfl) rfl (run_move hS rfl) fun a hS => st_v hS (hS.wanted rfl rfl rfl) rfl (run_bin hS rfl rfl rfl) fun a hS => st_v hS (hS.wanted rfl rfl rfl) rfl (run_pick_t hS rfl rfl) fun a hS => st_v hS rfl rfl (run_pick_f hS rfl rfl) fun a hS => wl_nil ?_
            have hS := hS.sub (κ' := [(0, _), (1, _), (2, _), (3, _), (4, _), (6, _), (7, _), (8, _), (9, _), (10, _), (11, _), (12, _), (13, _), (14, _), (15, _), (16, _), (17, _), (18, _), (19, _), (106, _)]) (Sub.cons rfl (Sub.cons rfl (Sub.cons rfl (Sub.cons rfl (Sub.cons rfl (Sub.cons rfl (Sub.cons rfl (Sub.cons rfl (Sub.cons rfl (Sub.cons rfl (Sub.cons rfl (Sub.cons rfl (Sub.cons rfl (Sub.cons rfl (Sub.cons rfl (Sub.cons rfl (Sub.cons rfl (Sub.cons rfl (Sub.cons rfl (Sub.cons rfl Sub.nil))))))))))))))))))))
            refine st_cond hS rfl (fun hc12 => ?_) (fun hc12 => ?_)
            ·
             try simp only [ty] at hc12
             omega
            ·
             try simp only [ty] at hc12
             
             refine wpIn_skip ?_
             refine wpIn_seq ?_
             refine wpIn_seq ?_
             refine wpIn_region_lit ?_
             refine st_v hS rfl rfl (run_move hS rfl) fun a hS => st_v hS rfl rfl (run_bin hS rfl rfl rfl) fun a hS => wl_nil ?_
             refine st_cond hS rfl (fun hc13 => ?_) (fun hc13 => ?_)
             ·
              try simp only [ty] at hc13
              refine wpIn_seq ?_
              refine wpIn_region_lit ?_
              refine st_call (law02_works) Tryz.call34 hS rfl rfl rfl fun v W a hR hB hlt hS => ?_
              subst hR
              refine st_v hS rfl rfl (run_assign hS rfl) fun a hS => wl_nil ?_
              refine wpIn_ret ?_
              repeat (first | refine q_ret ?_ | refine q_block_ret ?_)
              refine hS.done (res1 (fn := Tryz.f5) (r1 := .tmp 6) rfl (rv_tmp hS rfl)) ?_
              rfl
             ·
              try simp only [ty] at hc13
              have hfE : fastE r A = 0 := hc13
              obtain ⟨hF0, hFV, hF1, hF2, hF3⟩ := fast_ok hfE
              obtain ⟨_, _, hof⟩ := errC_ok hF0
              simp only [onFast, Bool.and_eq_true] at hof
              obtain ⟨hA1, hA2, hA3, hA4⟩ := (airOk_iff A).1 haok
              have hRp := rot_p hrok
              have hft := fastTop_le r A
              have hcb : (if tabOk r.never then (if A.weight.ok && A.temp.ok then (if liesT r.never A.weight A.temp then 0 else 1) else 10) else 11 : Int) = 0 := by
                simp [hRp.never.1, hA1, hA2, hof.2]
              have hF4 : fastV r A ≤ (bnd r.never A.weight A.temp).lo := by omega
              have hF5 : ¬ n ≤ fastV r A → ¬ (bnd r.never A.weight A.temp).lo < n → rateV r A n < 0 := fun h1 h2 => by
                rw [hRV]; exact hF3 n (by omega) (by omega)
              refine wpIn_skip ?_
              refine wpIn_seq ?_
              refine wpIn_region_lit ?_
              refine st_v hS rfl rfl (run_fieldAddr fa27_4 hS rfl) fun a hS => st_v hS rfl rfl (run_load_agg (i := 0) (vs := [_, _, _]) Tryz.isAgg25 Tryz.sizeOf25 hS rfl rfl rfl ⟨rfl, rfl, rfl, trivial⟩) fun a hS => st_v hS rfl rfl (run_fieldAddr fa33_0 hS rfl) fun a hS => st_v hS rfl rfl (run_load_agg (i := 1) (vs := [_, _]) Tryz.isAgg31 Tryz.sizeOf31 hS rfl rfl rfl ⟨rfl, rfl, trivial⟩) fun a hS => st_v hS rfl rfl (run_fieldAddr fa33_1 hS rfl) fun a hS => st_v hS rfl rfl (run_load_agg (i := 1) (vs := [_, _]) Tryz.isAgg31 Tryz.sizeOf31 hS rfl rfl rfl ⟨rfl, rfl, trivial⟩) fun a hS => st_call (spans_Bound V0.never r.never A.weight A.temp (hS.now.2).never) Tryz.call41 hS rfl rfl rfl fun v W a hR hB hlt hS => ?_
              rw [if_pos hcb, hcb] at hR
              subst hR
              refine st_v hS rfl rfl (run_move hS rfl) fun a hS => st_v hS rfl rfl (run_extract hS rfl rfl) fun a hS => st_v hS rfl rfl (run_extract hS rfl rfl) fun a hS => st_alloc_agg Tryz.zeroValue31 hS rfl rfl fun W a b3 hS => st_store (i := 0) Tryz.sizeOf31 hS rfl rfl rfl rfl rfl rfl rfl rfl rfl fun W a hS => st_v hS rfl rfl (run_assign hS rfl) fun a hS => wl_nil ?_
              refine wpIn_seq ?_
              refine wpIn_region_lit ?_
              refine st_v hS rfl rfl (run_move hS rfl) fun a hS => st_v hS rfl rfl (run_bin hS rfl rfl rfl) fun a hS => st_v hS rfl rfl (run_move hS rfl) fun a hS => ?_
              refine st_split (d := 122) hS rfl (fun hc14 hS => ?_) (fun hc14 hS => ?_)
              ·
               try simp only [ty] at hc14
               
               refine st_v hS (hS.wanted rfl rfl rfl) rfl (run_move hS rfl) fun a hS => st_v hS (hS.wanted rfl rfl rfl) rfl (run_fieldAddr fa31_0 hS rfl) fun a hS => st_v hS (hS.wanted rfl rfl rfl) rfl (run_load_one (i := 0) Tryz.isAgg3 hS rfl rfl rfl) fun a hS => st_v hS (hS.wanted rfl rfl rfl) rfl (run_bin hS rfl rfl rfl) fun a hS => st_v hS rfl rfl (run_pick_t hS rfl rfl) fun a hS => st_v hS rfl rfl (run_move hS rfl) fun a hS => ?_
               refine st_split (d := 128) hS rfl (fun hc15 hS => ?_) (fun hc15 hS => ?_)
               ·
                try simp only [ty] at hc15
                
                refine st_v hS (hS.wanted rfl rfl rfl) rfl (run_move hS rfl) fun a hS => st_v hS (hS.wanted rfl rfl rfl) rfl (run_move hS rfl) fun a hS => st_v hS (hS.wanted rfl rfl rfl) rfl (run_bin hS rfl rfl rfl) fun a hS => st_v hS (hS.wanted rfl rfl rfl) rfl (run_move hS rfl) fun a hS => ?_
                refine st_split (d := 132) hS rfl (fun hc16 hS => ?_) (fun hc16 hS => ?_)
                ·
                 try simp only [ty] at hc16
                 
                 refine st_skip hS (hS.unwanted rfl rfl rfl rfl) rfl fun a hS => st_skip hS (hS.unwanted rfl rfl rfl rfl) rfl fun a hS => st_skip hS (hS.unwanted rfl rfl rfl rfl) rfl fun a hS => st_skip hS (hS.unwanted rfl rfl rfl rfl) rfl fun a hS => st_v hS (hS.wanted rfl rfl rfl) rfl (run_pick_t hS rfl rfl) fun a hS => st_v hS (hS.wanted rfl rfl rfl) rfl (run_move hS rfl) fun a hS => st_skip hS (hS.unwanted rfl rfl rfl rfl) rfl fun a hS => st_skip hS (hS.unwanted rfl rfl rfl rfl) rfl fun a hS => st_v hS (hS.wanted rfl rfl rfl) rfl (run_pick_t hS rfl rfl) fun a hS => st_v hS rfl rfl (run_pick_t hS rfl rfl) fun a hS => st_v hS rfl rfl (run_move hS rfl) fun a hS => st_call (law02_works) Tryz.call34 hS (hS.wanted rfl rfl rfl) rfl rfl fun v W a hR hB hlt hS => ?_
                 subst hR
                 refine st_v hS rfl rfl (run_pick_t hS rfl rfl) fun a hS => st_v hS rfl rfl (run_assign hS rfl) fun a hS => wl_nil ?_
                 have hS := hS.sub (κ' := [(0, _), (1, _), (2, _), (3, _), (4, _), (6, _), (7, _), (8, _), (9, _), (10, _), (11, _), (12, _), (13, _), (14, _), (15, _), (16, _), (17, _), (18, _), (19, _), (20, _), (21, _)]) (Sub.cons rfl (Sub.cons rfl (Sub.cons rfl (Sub.cons rfl (Sub.cons rfl (Sub.cons rfl (Sub.cons rfl (Sub.cons rfl (Sub.cons rfl (Sub.cons rfl (Sub.cons rfl (Sub.cons rfl (Sub.cons rfl (Sub.cons rfl (Sub.cons rfl (Sub.cons rfl (Sub.cons rfl (Sub.cons rfl (Sub.cons rfl (Sub.cons rfl (Sub.cons rfl Sub.nil)))))))))))))))))))))
                 refine wpIn_ret ?_
                 repeat (first | refine q_ret ?_ | refine q_block_ret ?_)
                 refine hS.done (res1 (fn := Tryz.f5) (r1 := .tmp 6) rfl (rv_tmp hS rfl)) ?_
                 rfl
                ·
                 try simp only [ty] at hc16
                 
                 refine st_v hS (hS.wanted rfl rfl rfl) rfl (run_move hS rfl) fun a hS => st_v hS (hS.wanted rfl rfl rfl) rfl (run_fieldAddr fa31_0 hS rfl) fun a hS => st_v hS (hS.wanted rfl rfl rfl) rfl (run_load_one (i := 0) Tryz.isAgg3 hS rfl rfl rfl) fun a hS => st_v hS (hS.wanted rfl rfl rfl) rfl (run_bin hS rfl rfl rfl) fun a hS => st_v hS (hS.wanted rfl rfl rfl) rfl (run_pick_f hS rfl rfl) fun a hS => st_v hS (hS.wanted rfl rfl rfl) rfl (run_move hS rfl) fun a hS => ?_
                 refine st_split (d := 138) hS rfl (fun hc17 hS => ?_) (fun hc17 hS => ?_)
                 ·
                  try simp only [ty] at hc17
                  
                  refine st_skip hS (hS.unwanted rfl rfl rfl rfl) rfl fun a hS => st_skip hS (hS.unwanted rfl rfl rfl rfl) rfl fun a hS => st_v hS (hS.wanted rfl rfl rfl) rfl (run_pick_t hS rfl rfl) fun a hS => st_v hS rfl rfl (run_pick_t hS rfl rfl) fun a hS => st_v hS rfl rfl (run_move hS rfl) fun a hS => st_call (law02_works) Tryz.call34 hS (hS.wanted rfl rfl rfl) rfl rfl fun v W a hR hB hlt hS => ?_
                  subst hR
                  refine st_v hS rfl rfl (run_pick_t hS rfl rfl) fun a hS => st_v hS rfl rfl (run_assign hS rfl) fun a hS => wl_nil ?_
                  have hS := hS.sub (κ' := [(0, _), (1, _), (2, _), (3, _), (4, _), (6, _), (7, _), (8, _), (9, _), (10, _), (11, _), (12, _), (13, _), (14, _), (15, _), (16, _), (17, _), (18, _), (19, _), (20, _), (21, _)]) (Sub.cons rfl (Sub.cons rfl (Sub.cons rfl (Sub.cons rfl (Sub.cons rfl (Sub.cons rfl (Sub.cons rfl (Sub.cons rfl (Sub.cons rfl (Sub.cons rfl (Sub.cons rfl (Sub.cons rfl (Sub.cons rfl (Sub.cons rfl (Sub.cons rfl (Sub.cons rfl (Sub.cons rfl (Sub.cons rfl (Sub.cons rfl (Sub.cons rfl (Sub.cons rfl Sub.nil)))))))))))))))))))))
                  refine wpIn_ret ?_
                  repeat (first | refine q_ret ?_ | refine q_block_ret ?_)
                  refine hS.done (res1 (fn := Tryz.f5) (r1 := .tmp 6) rfl (rv_tmp hS rfl)) ?_
                  rfl
                 ·
                  try simp only [ty] at hc17
                  
                  refine st_v hS (hS.wanted rfl rfl rfl) rfl (run_move hS rfl) fun a hS => st_v hS (hS.wanted rfl rfl rfl) rfl (run_bin hS rfl rfl rfl) fun a hS => st_v hS (hS.wanted rfl rfl rfl) rfl (run_pick_f hS rfl rfl) fun a hS => st_v hS rfl rfl (run_pick_t hS rfl rfl) fun a hS => st_v hS rfl rfl (run_move hS rfl) fun a hS => ?_
                  refine st_split (d := 143) hS rfl (fun hc18 hS => ?_) (fun hc18 hS => ?_)
                  ·
                   try simp only [ty] at hc18
                   
                   refine st_call (law02_works) Tryz.call34 hS (hS.wanted rfl rfl rfl) rfl rfl fun v W a hR hB hlt hS => ?_
                   subst hR
                   refine st_v hS rfl rfl (run_pick_t hS rfl rfl) fun a hS => st_v hS rfl rfl (run_assign hS rfl) fun a hS => wl_nil ?_
                   have hS := hS.sub (κ' := [(0, _), (1, _), (2, _), (3, _), (4, _), (6, _), (7, _), (8, _), (9, _), (10, _), (11, _), (12, _), (13, _), (14, _), (15, _), (16, _), (17, _), (18, _), (19, _), (20, _), (21, _)]) (Sub.cons rfl (Sub.cons rfl (Sub.cons rfl (Sub.cons rfl (Sub.cons rfl (Sub.cons rfl (Sub.cons rfl (Sub.cons rfl (Sub.cons rfl (Sub.cons rfl (Sub.cons rfl (Sub.cons rfl (Sub.cons rfl (Sub.cons rfl (Sub.cons rfl (Sub.cons rfl (Sub.cons rfl (Sub.cons rfl (Sub.cons rfl (Sub.cons rfl (Sub.cons rfl Sub.nil)))))))))))))))))))))
                   refine wpIn_ret ?_
                   repeat (first | refine q_ret ?_ | refine q_block_ret ?_)
                   refine hS.done (res1 (fn := Tryz.f5) (r1 := .tmp 6) rfl (rv_tmp hS rfl)) ?_
                   rfl
                  ·
                   try simp only [ty] at hc18
                   have h18 : ¬ rateV r A n < 0 := by first | exact hc18 | (have h := hc18; omega)
                   exact absurd (hF5 (by first | exact hc16 | omega) (by first | exact hc17 | omega)) h18
               ·
                try simp only [ty] at hc15
                omega
              ·
               try simp only [ty] at hc14
               simp at hc14
           ·
            try simp only [ty] at hc11
            
            refine st_skip hS (hS.unwanted rfl rfl rfl rfl) rfl fun a hS => st_skip hS (hS.unwanted rfl rfl rfl rfl) rfl fun a hS => st_skip hS (hS.unwanted rfl rfl rfl rfl) rfl fun a hS => st_v hS (hS.wanted rfl rfl rfl) rfl (run_pick_f hS rfl rfl) fun a hS => st_v hS rfl rfl (run_pick_f hS rfl rfl) fun a hS => wl_nil ?_
            have hS := hS.sub (κ' := [(0, _), (1, _), (2, _), (3, _), (4, _), (6, _), (7, _), (8, _), (9, _), (10, _), (11, _), (12, _), (13, _), (14, _), (15, _), (16, _), (17, _), (18, _), (19, _), (106, _)]) (Sub.cons rfl (Sub.cons rfl (Sub.cons rfl (Sub.cons rfl (Sub.cons rfl (Sub.cons rfl (Sub.cons rfl (Sub.cons rfl (Sub.cons rfl (Sub.cons rfl (Sub.cons rfl (Sub.cons rfl (Sub.cons rfl (Sub.cons rfl (Sub.cons rfl (Sub.cons rfl (Sub.cons rfl (Sub.cons rfl (Sub.cons rfl (Sub.cons rfl Sub.nil))))))))))))))))))))
            refine st_cond_f hS rfl ?_
            refine wpIn_skip ?_
            refine wpIn_seq ?_
            refine wpIn_seq ?_
            refine wpIn_region_lit ?_
            refine st_v hS rfl rfl (run_move hS rfl) fun a hS => st_v hS rfl rfl (run_bin hS rfl rfl rfl) fun a hS => wl_nil ?_
            refine st_cond hS rfl (fun hc19 => ?_) (fun hc19 => ?_)
            ·
             try simp only [ty] at hc19
             refine wpIn_seq ?_
             refine wpIn_region_lit ?_
             refine st_call (law02_works) Tryz.call34 hS rfl rfl rfl fun v W a hR hB hlt hS => ?_
             subst hR
             refine st_v hS rfl rfl (run_assign hS rfl) fun a hS => wl_nil ?_
             refine wpIn_ret ?_
             repeat (first | refine q_ret ?_ | refine q_block_ret ?_)
             refine hS.done (res1 (fn := Tryz.f5) (r1 := .tmp 6) rfl (rv_tmp hS rfl)) ?_
             rfl
            ·
             try simp only [ty] at hc19
             have hfE : fastE r A = 0 := hc19
             obtain ⟨hF0, hFV, hF1, hF2, hF3⟩ := fast_ok hfE
             obtain ⟨_, _, hof⟩ := errC_ok hF0
             simp only [onFast, Bool.and_eq_true] at hof
             obtain ⟨hA1, hA2, hA3, hA4⟩ := (airOk_iff A).1 haok
             have hRp := rot_p hrok
             have hft := fastTop_le r A
             have hcb : (if tabOk r.never then (if A.weight.ok && A.temp.ok then (if liesT r.never A.weight A.temp then 0 else 1) else 10) else 11 : Int) = 0 := by
               simp [hRp.never.1, hA1, hA2, hof.2]
             have hF4 : fastV r A ≤ (bnd r.never A.weight A.temp).lo := by omega
             have hF5 : ¬ n ≤ fastV r A → ¬ (bnd r.never A.weight A.temp).lo < n → rateV r A n < 0 := fun h1 h2 => by
               rw [hRV]; exact hF3 n (by omega) (by omega)
             refine wpIn_skip ?_
             refine wpIn_seq ?_
             refine wpIn_region_lit ?_
             refine st_v hS rfl rfl (run_fieldAddr fa27_4 hS rfl) fun a hS => st_v hS rfl rfl (run_load_agg (i := 0) (vs := [_, _, _]) Tryz.isAgg25 Tryz.sizeOf25 hS rfl rfl rfl ⟨rfl, rfl, rfl, trivial⟩) fun a hS => st_v hS rfl rfl (run_fieldAddr fa33_0 hS rfl) fun a hS => st_v hS rfl rfl (run_load_agg (i := 1) (vs := [_, _]) Tryz.isAgg31 Tryz.sizeOf31 hS rfl rfl rfl ⟨rfl, rfl, trivial⟩) fun a hS => st_v hS rfl rfl (run_fieldAddr fa33_1 hS rfl) fun a hS => st_v hS rfl rfl (run_load_agg (i := 1) (vs := [_, _]) Tryz.isAgg31 Tryz.sizeOf31 hS rfl rfl rfl ⟨rfl, rfl, trivial⟩) fun a hS => st_call (spans_Bound V0.never r.never A.weight A.temp (hS.now.2).never) Tryz.call41 hS rfl rfl rfl fun v W a hR hB hlt hS => ?_
             rw [if_pos hcb, hcb] at hR
             subst hR
             refine st_v hS rfl rfl (run_move hS rfl) fun a hS => st_v hS rfl rfl (run_extract hS rfl rfl) fun a hS => st_v hS rfl rfl (run_extract hS rfl rfl) fun a hS => st_alloc_agg Tryz.zeroValue31 hS rfl rfl fun W a b4 hS => st_store (i := 0) Tryz.sizeOf31 hS rfl rfl rfl rfl rfl rfl rfl rfl rfl fun W a hS => st_v hS rfl rfl (run_assign hS rfl) fun a hS => wl_nil ?_
             refine wpIn_seq ?_
             refine wpIn_region_lit ?_
             refine st_v hS rfl rfl (run_move hS rfl) fun a hS => st_v hS rfl rfl (run_bin hS rfl rfl rfl) fun a hS => st_v hS rfl rfl (run_move hS rfl) fun a hS => ?_
             refine st_split (d := 122) hS rfl (fun hc20 hS => ?_) (fun hc20 hS => ?_)
             ·
              try simp only [ty] at hc20
              
              refine st_v hS (hS.wanted rfl rfl rfl) rfl (run_move hS rfl) fun a hS => st_v hS (hS.wanted rfl rfl rfl) rfl (run_fieldAddr fa31_0 hS rfl) fun a hS => st_v hS (hS.wanted rfl rfl rfl) rfl (run_load_one (i := 0) Tryz.isAgg3 hS rfl rfl rfl) fun a hS => st_v hS (hS.wanted rfl rfl rfl) rfl (run_bin hS rfl rfl rfl) fun a hS => st_v hS rfl rfl (run_pick_t hS rfl rfl) fun a hS => st_v hS rfl rfl (run_move hS rfl) fun a hS => ?_
              refine st_split (d := 128) hS rfl (fun hc21 hS => ?_) (fun hc21 hS => ?_)
              ·
               try simp only [ty] at hc21
               
               refine st_v hS (hS.wanted rfl rfl rfl) rfl (run_move hS rfl) fun a hS => st_v hS (hS.wanted rfl rfl rfl) rfl (run_move hS rfl) fun a hS => st_v hS (hS.wanted rfl rfl rfl) rfl (run_bin hS rfl rfl rfl) fun a hS => st_v hS (hS.wanted rfl rfl rfl) rfl (run_move hS rfl) fun a hS => ?_
               refine st_split (d := 132) hS rfl (fun hc22 hS => ?_) (fun hc22 hS => ?_)
               ·
                try simp only [ty] at hc22
                
                refine st_skip hS (hS.unwanted rfl rfl rfl rfl) rfl fun a hS => st_skip hS (hS.unwanted rfl rfl rfl rfl) rfl fun a hS => st_skip hS (hS.unwanted rfl rfl rfl rfl) rfl fun a hS => st_skip hS (hS.unwanted rfl rfl rfl rfl) rfl fun a hS => st_v hS (hS.wanted rfl rfl rfl) rfl (run_pick_t hS rfl rfl) fun a hS => st_v hS (hS.wanted rfl rfl rfl) rfl (run_move hS rfl) fun a hS => st_skip hS (hS.unwanted rfl rfl rfl rfl) rfl fun a hS => st_skip hS (hS.unwanted rfl rfl rfl rfl) rfl fun a hS => st_v hS (hS.wanted rfl rfl rfl) rfl (run_pick_t hS rfl rfl) fun a hS => st_v hS rfl rfl (run_pick_t hS rfl rfl) fun a hS => st_v hS rfl rfl (run_move hS rfl) fun a hS => st_call (law02_works) Tryz.call34 hS (hS.wanted rfl rfl rfl) rfl rfl fun v W a hR hB hlt hS => ?_
                subst hR
                refine st_v hS rfl rfl (run_pick_t hS rfl rfl) fun a hS => st_v hS rfl rfl (run_assign hS rfl) fun a hS => wl_nil ?_
                have hS := hS.sub (κ' := [(0, _), (1, _), (2, _), (3, _), (4, _), (6, _), (7, _), (8, _), (9, _), (10, _), (11, _), (12, _), (13, _), (14, _), (15, _), (16, _), (17, _), (18, _), (19, _), (20, _), (21, _)]) (Sub.cons rfl (Sub.cons rfl (Sub.cons rfl (Sub.cons rfl (Sub.cons rfl (Sub.cons rfl (Sub.cons rfl (Sub.cons rfl (Sub.cons rfl (Sub.cons rfl (Sub.cons rfl (Sub.cons rfl (Sub.cons rfl (Sub.cons rfl (Sub.cons rfl (Sub.cons rfl (Sub.cons rfl (Sub.cons rfl (Sub.cons rfl (Sub.cons rfl (Sub.cons rfl Sub.nil)))))))))))))))))))))
                refine wpIn_ret ?_
                repeat (first | refine q_ret ?_ | refine q_block_ret ?_)
                refine hS.done (res1 (fn := Tryz.f5) (r1 := .tmp 6) rfl (rv_tmp hS rfl)) ?_
                rfl
               ·
                try simp only [ty] at hc22
                
                refine st_v hS (hS.wanted rfl rfl rfl) rfl (run_move hS rfl) fun a hS => st_v hS (hS.wanted rfl rfl rfl) rfl (run_fieldAddr fa31_0 hS rfl) fun a hS => st_v hS (hS.wanted rfl rfl rfl) rfl (run_load_one (i := 0) Tryz.isAgg3 hS rfl rfl rfl) fun a hS => st_v hS (hS.wanted rfl rfl rfl) rfl (run_bin hS rfl rfl rfl) fun a hS => st_v hS (hS.wanted rfl rfl rfl) rfl (run_pick_f hS rfl rfl) fun a hS => st_v hS (hS.wanted rfl rfl rfl) rfl (run_move hS rfl) fun a hS => ?_
                refine st_split (d := 138) hS rfl (fun hc23 hS => ?_) (fun hc23 hS => ?_)
                ·
                 try simp only [ty] at hc23
                 
                 refine st_skip hS (hS.unwanted rfl rfl rfl rfl) rfl fun a hS => st_skip hS (hS.unwanted rfl rfl rfl rfl) rfl fun a hS => st_v hS (hS.wanted rfl rfl rfl) rfl (run_pick_t hS rfl rfl) fun a hS => st_v hS rfl rfl (run_pick_t hS rfl rfl) fun a hS => st_v hS rfl rfl (run_move hS rfl) fun a hS => st_call (law02_works) Tryz.call34 hS (hS.wanted rfl rfl rfl) rfl rfl fun v W a hR hB hlt hS => ?_
                 subst hR
                 refine st_v hS rfl rfl (run_pick_t hS rfl rfl) fun a hS => st_v hS rfl rfl (run_assign hS rfl) fun a hS => wl_nil ?_
                 have hS := hS.sub (κ' := [(0, _), (1, _), (2, _), (3, _), (4, _), (6, _), (7, _), (8, _), (9, _), (10, _), (11, _), (12, _), (13, _), (14, _), (15, _), (16, _), (17, _), (18, _), (19, _), (20, _), (21, _)]) (Sub.cons rfl (Sub.cons rfl (Sub.cons rfl (Sub.cons rfl (Sub.cons rfl (Sub.cons rfl (Sub.cons rfl (Sub.cons rfl (Sub.cons rfl (Sub.cons rfl (Sub.cons rfl (Sub.cons rfl (Sub.cons rfl (Sub.cons rfl (Sub.cons rfl (Sub.cons rfl (Sub.cons rfl (Sub.cons rfl (Sub.cons rfl (Sub.cons rfl (Sub.cons rfl Sub.nil)))))))))))))))))))))
                 refine wpIn_ret ?_
                 repeat (first | refine q_ret ?_ | refine q_block_ret ?_)
                 refine hS.done (res1 (fn := Tryz.f5) (r1 := .tmp 6) rfl (rv_tmp hS rfl)) ?_
                 rfl
                ·
                 try simp only [ty] at hc23
                 
                 refine st_v hS (hS.wanted rfl rfl rfl) rfl (run_move hS rfl) fun a hS => st_v hS (hS.wanted rfl rfl rfl) rfl (run_bin hS rfl rfl rfl) fun a hS => st_v hS (hS.wanted rfl rfl rfl) rfl (run_pick_f hS rfl rfl) fun a hS => st_v hS rfl rfl (run_pick_t hS rfl rfl) fun a hS => st_v hS rfl rfl (run_move hS rfl) fun a hS => ?_
                 refine st_split (d := 143) hS rfl (fun hc24 hS => ?_) (fun hc24 hS => ?_)
                 ·
                  try simp only [ty] at hc24
                  
                  refine st_call (law02_works) Tryz.call34 hS (hS.wanted rfl rfl rfl) rfl rfl fun v W a hR hB hlt hS => ?_
                  subst hR
                  refine st_v hS rfl rfl (run_pick_t hS rfl rfl) fun a hS => st_v hS rfl rfl (run_assign hS rfl) fun a hS => wl_nil ?_
                  have hS := hS.sub (κ' := [(0, _), (1, _), (2, _), (3, _), (4, _), (6, _), (7, _), (8, _), (9, _), (10, _), (11, _), (12, _), (13, _), (14, _), (15, _), (16, _), (17, _), (18, _), (19, _), (20, _), (21, _)]) (Sub.cons rfl (Sub.cons rfl (Sub.cons rfl (Sub.cons rfl (Sub.cons rfl (Sub.cons rfl (Sub.cons rfl (Sub.cons rfl (Sub.cons rfl (Sub.cons rfl (Sub.cons rfl (Sub.cons rfl (Sub.cons rfl (Sub.cons rfl (Sub.cons rfl (Sub.cons rfl (Sub.cons rfl (Sub.cons rfl (Sub.cons rfl (Sub.cons rfl (Sub.cons rfl Sub.nil)))))))))))))))))))))
                  refine wpIn_ret ?_
                  repeat (first | refine q_ret ?_ | refine q_block_ret ?_)
                  refine hS.done (res1 (fn := Tryz.f5) (r1 := .tmp 6) rfl (rv_tmp hS rfl)) ?_
                  rfl
                 ·
                  try simp only [ty] at hc24
                  have h18 : ¬ rateV r A n < 0 := by first | exact hc24 | (have h := hc24; omega)
                  exact absurd (hF5 (by first | exact hc22 | omega) (by first | exact hc23 | omega)) h18
              ·
               try simp only [ty] at hc21
               omega
             ·
              try simp only [ty] at hc20
              simp at hc20

end Go.Proofs.YtdnodlgebpnfoaaGreat
