/- What the proof of EngineRates leans on, part 7: plain mathematics, the engine of the walks, the walks. -/
import Derived.Test.YtdnodlgebpnfoaaGreatK6EngineRates
set_option linter.unusedVariables false
set_option linter.unusedSimpArgs false
set_option linter.unnecessarySimpa false
namespace Go.Proofs.YtdnodlgebpnfoaaGreat
open Go Go.RowKit Go.Shelf Sw
def exCr : Cr := ⟨50, 25, 10, 3, 2, 1, 1⟩
def exA3 : Air := ⟨⟨1000, 1500⟩, ⟨0, 20⟩, ⟨0, 0⟩, ⟨0, 30⟩⟩
def exFld : Fld := ⟨4, 3, 2, [⟨6, 2⟩]⟩
set_option maxHeartbeats 8000000 in
set_option maxRecDepth 100000 in
theorem law03_Example {w : World} : Ret Tryz.prog 124 [] w (fun v W' => ∃ (V : RV) (sf : SV), v = .tuple #[.agg (craftC V exRot exCr).toArray, .agg (airC exA3).toArray, .agg (fldC sf exFld).toArray] ∧ RotR (fun k => w.heap.size ≤ k) W' V exRot ∧ Sl kHind (fun k => w.heap.size ≤ k) W' sf exFld.hinds) := by
 refine ret_start (n := 67) Tryz.func124 rfl rfl rfl (fun a hS => ?_)
 refine wpIn_seq ?_
 refine wpIn_region_lit ?_
 refine st_alloc_agg Tryz.zeroValue29 hS rfl rfl fun W a b0 hS => st_alloc_agg Tryz.zeroValue33 hS rfl rfl fun W a b1 hS => st_alloc_agg Tryz.zeroValue36 hS rfl rfl fun W a b2 hS => wl_nil ?_
 refine wpIn_seq ?_
 refine wpIn_region_lit ?_
 refine st_buildSlice (pv := [(0, .int .i64 _), (1, .int .i64 _)]) (fun W => bs22_2_0_1 _ _ W) hS rfl rfl rfl fun W a b3 hS => st_buildSlice (pv := [(0, .int .i64 _), (1, .int .i64 _)]) (fun W => bs22_2_0_1 _ _ W) hS rfl rfl rfl fun W a b4 hS => st_buildSlice (pv := [(0, .int .i64 _), (1, .int .i64 _)]) (fun W => bs22_2_0_1 _ _ W) hS rfl rfl rfl fun W a b5 hS => st_buildSlice (pv := [(0, .int .i64 _), (1, .int .i64 _)]) (fun W => bs22_2_0_1 _ _ W) hS rfl rfl rfl fun W a b6 hS => st_buildSlice (pv := [(0, .slice _ _ _), (1, .slice _ _ _)]) (fun W => bs23_2_0_1 _ _ _ _ _ _ W) hS rfl rfl rfl fun W a b7 hS => st_v hS rfl rfl (run_build (pv := [(0, .slice _ _ _), (1, .slice _ _ _), (2, .slice _ _ _)]) (fun W => bd25_0_1_2 _ _ _ _ _ _ _ _ _ W) hS rfl) fun a hS => st_buildSlice (pv := [(0, .int .i64 _), (1, .int .i64 _)]) (fun W => bs22_2_0_1 _ _ W) hS rfl rfl rfl fun W a b8 hS => st_buildSlice (pv := [(0, .int .i64 _), (1, .int .i64 _)]) (fun W => bs22_2_0_1 _ _ W) hS rfl rfl rfl fun W a b9 hS => st_buildSlice (pv := [(0, .int .i64 _), (1, .int .i64 _)]) (fun W => bs22_2_0_1 _ _ W) hS rfl rfl rfl fun W a b10 hS => st_buildSlice (pv := [(0, .int .i64 _), (1, .int .i64 _)]) (fun W => bs22_2_0_1 _ _ W) hS rfl rfl rfl fun W a b11 hS => st_buildSlice (pv := [(0, .slice _ _ _), (1, .slice _ _ _)]) (fun W => bs23_2_0_1 _ _ _ _ _ _ W) hS rfl rfl rfl fun W a b12 hS => st_v hS rfl rfl (run_build (pv := [(0, .slice _ _ _), (1, .slice _ _ _), (2, .slice _ _ _)]) (fun W => bd25_0_1_2 _ _ _ _ _ _ _ _ _ W) hS rfl) fun a hS => st_buildSlice (pv := [(0, .int .i64 _), (1, .int .i64 _), (2, .int .i64 _)]) (fun W => bs22_3_0_1_2 _ _ _ W) hS rfl rfl rfl fun W a b13 hS => st_buildSlice (pv := [(0, .int .i64 _), (1, .int .i64 _)]) (fun W => bs22_2_0_1 _ _ W) hS rfl rfl rfl fun W a b14 hS => st_buildSlice (pv := [(0, .int .i64 _), (1, .int .i64 _)]) (fun W => bs22_2_0_1 _ _ W) hS rfl rfl rfl fun W a b15 hS => st_buildSlice (pv := [(0, .int .i64 _), (1, .int .i64 _)]) (fun W => bs22_2_0_1 _ _ W) hS rfl rfl rfl fun W a b16 hS => st_buildSlice (pv := [(0, .int .i64 _), (1, .int .i64 _)]) (fun W => bs22_2_0_1 _ _ W) hS rfl rfl rfl fun W a b17 hS => st_buildSlice (pv := [(0, .slice _ _ _), (1, .slice _ _ _), (2, .slice _ _ _)]) (fun W => bs23_3_0_1_2 _ _ _ _ _ _ _ _ _ W) hS rfl rfl rfl fun W a b18 hS => st_v hS rfl rfl (run_build (pv := [(0, .slice _ _ _), (1, .slice _ _ _), (2, .slice _ _ _)]) (fun W => bd25_0_1_2 _ _ _ _ _ _ _ _ _ W) hS rfl) fun a hS => st_buildSlice (pv := [(0, .int .i64 _), (1, .int .i64 _)]) (fun W => bs22_2_0_1 _ _ W) hS rfl rfl rfl fun W a b19 hS => st_buildSlice (pv := [(0, .int .i64 _), (1, .int .i64 _)]) (fun W => bs22_2_0_1 _ _ W) hS rfl rfl rfl fun W a b20 hS => st_buildSlice (pv := [(0, .int .i64 _), (1, .int .i64 _)]) (fun W => bs22_2_0_1 _ _ W) hS rfl rfl rfl fun W a b21 hS => st_buildSlice (pv := [(0, .int .i64 _), (1, .int .i64 _)]) (fun W => bs22_2_0_1 _ _ W) hS rfl rfl rfl fun W a b22 hS => st_buildSlice (pv := [(0, .slice _ _ _), (1, .slice _ _ _)]) (fun W => bs23_2_0_1 _ _ _ _ _ _ W) hS rfl rfl rfl fun W a b23 hS => st_v hS rfl rfl (run_build (pv := [(0, .slice _ _ _), (1, .slice _ _ _), (2, .slice _ _ _)]) (fun W => bd25_0_1_2 _ _ _ _ _ _ _ _ _ W) hS rfl) fun a hS => st_buildSlice (pv := [(0, .int .i64 _), (1, .int .i64 _)]) (fun W => bs22_2_0_1 _ _ W) hS rfl rfl rfl fun W a b24 hS => st_buildSlice (pv := [(0, .int .i64 _), (1, .int .i64 _)]) (fun W => bs22_2_0_1 _ _ W) hS rfl rfl rfl fun W a b25 hS => st_buildSlice (pv := [(0, .int .i64 _), (1, .int .i64 _)]) (fun W => bs22_2_0_1 _ _ W) hS rfl rfl rfl fun W a b26 hS => st_buildSlice (pv := [(0, .int .i64 _), (1, .int .i64 _)]) (fun W => bs22_2_0_1 _ _ W) hS rfl rfl rfl fun W a b27 hS => st_buildSlice (pv := [(0, .slice _ _ _), (1, .slice _ _ _)]) (fun W => bs23_2_0_1 _ _ _ _ _ _ W) hS rfl rfl rfl fun W a b28 hS => st_v hS rfl rfl (run_build (pv := [(0, .slice _ _ _), (1, .slice _ _ _), (2, .slice _ _ _)]) (fun W => bd25_0_1_2 _ _ _ _ _ _ _ _ _ W) hS rfl) fun a hS => st_buildSlice (pv := [(0, .int .i64 _), (1, .int .i64 _)]) (fun W => bs22_2_0_1 _ _ W) hS rfl rfl rfl fun W a b29 hS => st_buildSlice (pv := [(0, .int .i64 _), (1, .int .i64 _)]) (fun W => bs22_2_0_1 _ _ W) hS rfl rfl rfl fun W a b30 hS => st_buildSlice (pv := [(0, .int .i64 _), (1, .int .i64 _)]) (fun W => bs22_2_0_1 _ _ W) hS rfl rfl rfl fun W a b31 hS => st_buildSlice (pv := [(0, .int .i64 _), (1, .int .i64 _)]) (fun W => bs22_2_0_1 _ _ W) hS rfl rfl rfl fun W a b32 hS => st_buildSlice (pv := [(0, .slice _ _ _), (1, .slice _ _ _)]) (fun W => bs23_2_0_1 _ _ _ _ _ _ W) hS rfl rfl rfl fun W a b33 hS => st_v hS rfl rfl (run_build (pv := [(0, .slice _ _ _), (1, .slice _ _ _), (2, .slice _ _ _)]) (fun W => bd25_0_1_2 _ _ _ _ _ _ _ _ _ W) hS rfl) fun a hS => st_buildSlice (pv := [(0, .int .i64 _), (1, .int .i64 _)]) (fun W => bs22_2_0_1 _ _ W) hS rfl rfl rfl fun W a b34 hS => st_buildSlice (pv := [(0, .int .i64 _), (1, .int .i64 _)]) (fun W => bs22_2_0_1 _ _ W) hS rfl rfl rfl fun W a b35 hS => st_buildSlice (pv := [(0, .int .i64 _), (1, .int .i64 _)]) (fun W => bs22_2_0_1 _ _ W) hS rfl rfl rfl fun W a b36 hS => st_buildSlice (pv := [(0, .int .i64 _), (1, .int .i64 _)]) (fun W => bs22_2_0_1 _ _ W) hS rfl rfl rfl fun W a b37 hS => st_buildSlice (pv := [(0, .slice _ _ _), (1, .slice _ _ _)]) (fun W => bs23_2_0_1 _ _ _ _ _ _ W) hS rfl rfl rfl fun W a b38 hS => st_v hS rfl rfl (run_build (pv := [(0, .slice _ _ _), (1, .slice _ _ _), (2, .slice _ _ _)]) (fun W => bd25_0_1_2 _ _ _ _ _ _ _ _ _ W) hS rfl) fun a hS => st_buildSlice (pv := [(0, .int .i64 _), (1, .int .i64 _)]) (fun W => bs22_2_0_1 _ _ W) hS rfl rfl rfl fun W a b39 hS => st_buildSlice (pv := [(0, .int .i64 _), (1, .int .i64 _)]) (fun W => bs22_2_0_1 _ _ W) hS rfl rfl rfl fun W a b40 hS => st_buildSlice (pv := [(0, .int .i64 _), (1, .int .i64 _)]) (fun W => bs22_2_0_1 _ _ W) hS rfl rfl rfl fun W a b41 hS => st_buildSlice (pv := [(0, .int .i64 _), (1, .int .i64 _)]) (fun W => bs22_2_0_1 _ _ W) hS rfl rfl rfl fun W a b42 hS => st_buildSlice (pv := [(0, .slice _ _ _), (1, .slice _ _ _)]) (fun W => bs23_2_0_1 _ _ _ _ _ _ W) hS rfl rfl rfl fun W a b43 hS => st_v hS rfl rfl (run_build (pv := [(0, .slice _ _ _), (1, .slice _ _ _), (2, .slice _ _ _)]) (fun W => bd25_0_1_2 _ _ _ _ _ _ _ _ _ W) hS rfl) fun a hS => st_v hS rfl rfl (run_build (pv := [(0, .agg #[.slice _ _ _, .slice _ _ _, .slice _ _ _]), (1, .agg #[.slice _ _ _, .slice _ _ _, .slice _ _ _]), (2, .agg #[.slice _ _ _, .slice _ _ _, .slice _ _ _]), (3, .agg #[.slice _ _ _, .slice _ _ _, .slice _ _ _]), (4, .agg #[.slice _ _ _, .slice _ _ _, .slice _ _ _]), (5, .agg #[.slice _ _ _, .slice _ _ _, .slice _ _ _]), (6, .agg #[.slice _ _ _, .slice _ _ _, .slice _ _ _]), (7, .agg #[.slice _ _ _, .slice _ _ _, .slice _ _ _]), (8, .int .i64 _), (9, .int .i64 _)]) (fun W => bd27_0_1_2_3_4_5_6_7_8_9 _ _ _ _ _ _ _ _ _ _ _ _ _ _ _ _ _ _ _ _ _ _ _ _ _ _ _ _ _ _ _ _ _ _ _ _ _ _ _ _ _ _ _ _ _ _ _ _ _ _ _ _ _ _ _ _ _ _ _ _ _ _ _ _ _ _ _ _ _ _ _ _ _ _ W) hS rfl) fun a hS => st_alloc_agg Tryz.zeroValue27 hS rfl rfl fun W a b44 hS => st_store (cs' := [.slice (some ⟨b3, 0, none⟩) 2 2, .slice (some ⟨b4, 0, none⟩) 2 2, .slice (some ⟨b7, 0, none⟩) 2 2, .slice (some ⟨b8, 0, none⟩) 2 2, .slice (some ⟨b9, 0, none⟩) 2 2, .slice (some ⟨b12, 0, none⟩) 2 2, .slice (some ⟨b13, 0, none⟩) 3 3, .slice (some ⟨b14, 0, none⟩) 2 2, .slice (some ⟨b18, 0, none⟩) 3 3, .slice (some ⟨b19, 0, none⟩) 2 2, .slice (some ⟨b20, 0, none⟩) 2 2, .slice (some ⟨b23, 0, none⟩) 2 2, .slice (some ⟨b24, 0, none⟩) 2 2, .slice (some ⟨b25, 0, none⟩) 2 2, .slice (some ⟨b28, 0, none⟩) 2 2, .slice (some ⟨b29, 0, none⟩) 2 2, .slice (some ⟨b30, 0, none⟩) 2 2, .slice (some ⟨b33, 0, none⟩) 2 2, .slice (some ⟨b34, 0, none⟩) 2 2, .slice (some ⟨b35, 0, none⟩) 2 2, .slice (some ⟨b38, 0, none⟩) 2 2, .slice (some ⟨b39, 0, none⟩) 2 2, .slice (some ⟨b40, 0, none⟩) 2 2, .slice (some ⟨b43, 0, none⟩) 2 2, .int .i64 10, .int .i64 200]) (i := 0) Tryz.sizeOf27 hS rfl rfl rfl rfl rfl rfl rfl rfl rfl fun W a hS => wl_nil ?_
 try dsimp only [setB] at hS
 have hS := hS.sub (κ' := [(0, _), (1, _), (2, _), (3, _)]) (Sub.cons rfl (Sub.cons rfl (Sub.cons rfl (Sub.cons rfl Sub.nil))))
 refine wpIn_seq ?_
 refine wpIn_region_lit ?_
 refine st_v hS rfl rfl (run_load_all (i := 0) Tryz.isAgg27 Tryz.sizeOf27 hS rfl rfl rfl) fun a hS => st_v hS rfl rfl (run_build (pv := [(0, .agg #[.slice _ _ _, .slice _ _ _, .slice _ _ _, .slice _ _ _, .slice _ _ _, .slice _ _ _, .slice _ _ _, .slice _ _ _, .slice _ _ _, .slice _ _ _, .slice _ _ _, .slice _ _ _, .slice _ _ _, .slice _ _ _, .slice _ _ _, .slice _ _ _, .slice _ _ _, .slice _ _ _, .slice _ _ _, .slice _ _ _, .slice _ _ _, .slice _ _ _, .slice _ _ _, .slice _ _ _, .int .i64 _, .int .i64 _]), (1, .int .i64 _), (2, .int .i64 _), (3, .int .i64 _), (4, .int .i64 _), (5, .int .i64 _), (6, .int .i64 _), (7, .int .i64 _)]) (fun W => bd29_0_1_2_3_4_5_6_7 _ _ _ _ _ _ _ _ _ _ _ _ _ _ _ _ _ _ _ _ _ _ _ _ _ _ _ _ _ _ _ _ _ _ _ _ _ _ _ _ _ _ _ _ _ _ _ _ _ _ _ _ _ _ _ _ _ _ _ _ _ _ _ _ _ _ _ _ _ _ _ _ _ _ _ _ _ _ _ _ _ W) hS rfl) fun a hS => st_alloc_agg Tryz.zeroValue29 hS rfl rfl fun W a b45 hS => st_store (cs' := [.slice (some ⟨b3, 0, none⟩) 2 2, .slice (some ⟨b4, 0, none⟩) 2 2, .slice (some ⟨b7, 0, none⟩) 2 2, .slice (some ⟨b8, 0, none⟩) 2 2, .slice (some ⟨b9, 0, none⟩) 2 2, .slice (some ⟨b12, 0, none⟩) 2 2, .slice (some ⟨b13, 0, none⟩) 3 3, .slice (some ⟨b14, 0, none⟩) 2 2, .slice (some ⟨b18, 0, none⟩) 3 3, .slice (some ⟨b19, 0, none⟩) 2 2, .slice (some ⟨b20, 0, none⟩) 2 2, .slice (some ⟨b23, 0, none⟩) 2 2, .slice (some ⟨b24, 0, none⟩) 2 2, .slice (some ⟨b25, 0, none⟩) 2 2, .slice (some ⟨b28, 0, none⟩) 2 2, .slice (some ⟨b29, 0, none⟩) 2 2, .slice (some ⟨b30, 0, none⟩) 2 2, .slice (some ⟨b33, 0, none⟩) 2 2, .slice (some ⟨b34, 0, none⟩) 2 2, .slice (some ⟨b35, 0, none⟩) 2 2, .slice (some ⟨b38, 0, none⟩) 2 2, .slice (some ⟨b39, 0, none⟩) 2 2, .slice (some ⟨b40, 0, none⟩) 2 2, .slice (some ⟨b43, 0, none⟩) 2 2, .int .i64 10, .int .i64 200, .int .i64 50, .int .i64 25, .int .i64 10, .int .i64 3, .int .i64 2, .int .i64 1, .int .i64 1]) (i := 0) Tryz.sizeOf29 hS rfl rfl rfl rfl rfl rfl rfl rfl rfl fun W a hS => wl_nil ?_
 try dsimp only [setB] at hS
 refine wpIn_seq ?_
 refine wpIn_region_lit ?_
 refine st_v hS rfl rfl (run_build (pv := [(0, .int .i64 _), (1, .int .i64 _)]) (fun W => bd31_0_1 _ _ W) hS rfl) fun a hS => st_v hS rfl rfl (run_build (pv := [(1, .int .i64 _)]) (fun W => bd31_1 _ W) hS rfl) fun a hS => st_v hS rfl rfl (run_build (pv := [(1, .int .i64 _)]) (fun W => bd31_1 _ W) hS rfl) fun a hS => st_v hS rfl rfl (run_build (pv := [(0, .agg #[.int .i64 _, .int .i64 _]), (1, .agg #[.int .i64 _, .int .i64 _]), (3, .agg #[.int .i64 _, .int .i64 _])]) (fun W => bd33_0_1_3 _ _ _ _ _ _ W) hS rfl) fun a hS => st_alloc_agg Tryz.zeroValue33 hS rfl rfl fun W a b46 hS => st_store (cs' := [.int .i64 (((⟨1000, 1500⟩ : Span)).lo), .int .i64 (((⟨1000, 1500⟩ : Span)).hi), .int .i64 (((⟨0, 20⟩ : Span)).lo), .int .i64 (((⟨0, 20⟩ : Span)).hi), .int .i64 0, .int .i64 0, .int .i64 (((⟨0, 30⟩ : Span)).lo), .int .i64 (((⟨0, 30⟩ : Span)).hi)]) (i := 0) Tryz.sizeOf33 hS rfl rfl rfl rfl rfl rfl rfl rfl rfl fun W a hS => wl_nil ?_
 try dsimp only [setB] at hS
 refine wpIn_seq ?_
 refine anyh_start (by kernel_rfl) [true, true, true, true, true, true, true, true, true, true, true, true, true, true, true, true, true, true, true, true, true, true, true, true, true, true, true, true, true, true, true, true, true, true, true, true, true, true, true, true, true, true, true, true, false, false, false] hS fun W hS => ?_
 refine anyh_take (i := 0) [true, true, true, true, true, true, true, true, true, true, true, true, true, true, true, true, true, true, true, true, true, true, true, true, true, true, true, true, true, true, true, true, true, true, true, true, true, true, true, true, true, true, true, true, false, false, false] hS (fun _ h => h) rfl rfl (by kernel_rfl) (by kernel_rfl) (by kernel_rfl) rfl rfl (fun W' hS => run_load_all (i := 1) Tryz.isAgg29 Tryz.sizeOf29 hS rfl rfl rfl) fun a hS => ?_
 refine anyh_take (i := 1) [true, true, true, true, true, true, true, true, true, true, true, true, true, true, true, true, true, true, true, true, true, true, true, true, true, true, true, true, true, true, true, true, true, true, true, true, true, true, true, true, true, true, true, true, false, false, false] hS (fun _ h => h) rfl rfl (by kernel_rfl) (by kernel_rfl) (by kernel_rfl) rfl rfl (fun W' hS => run_load_all (i := 0) Tryz.isAgg33 Tryz.sizeOf33 hS rfl rfl rfl) fun a hS => ?_
 refine anyh_take (i := 2) [true, true, true, true, true, true, true, true, true, true, true, true, true, true, true, true, true, true, true, true, true, true, true, true, true, true, true, true, true, true, true, true, true, true, true, true, true, true, true, true, true, true, true, true, false, false, false] hS (fun _ h => h) rfl rfl (by kernel_rfl) (by kernel_rfl) (by kernel_rfl) rfl rfl (fun W' hS => run_build (pv := [(0, .int .i64 _), (1, .int .i64 _)]) (fun W => bd194_0_1 _ _ W) hS rfl) fun a hS => ?_
 refine anyh_go (rs := [3, 5]) (by kernel_rfl) (by simp) ⟨⟨_, rfl, ?_⟩, ⟨_, rfl, ?_⟩, trivial⟩
 ·
  refine st_buildSlice (pv := [(0, .agg #[.int .i64 _, .int .i64 _])]) (fun W => bs34_1_0 _ _ W) hS rfl rfl rfl fun W a b47 hS => wl_nil ?_
  refine anyh_next [false, true, true, true, true, true, true, true, true, true, true, true, true, true, true, true, true, true, true, true, true, true, true, true, true, true, true, true, true, true, true, true, true, true, true, true, true, true, true, true, true, true, true, true, true, false, false, false] hS (fun _ h => h) rfl ?_
  refine anyh_take (i := 4) [false, true, true, true, true, true, true, true, true, true, true, true, true, true, true, true, true, true, true, true, true, true, true, true, true, true, true, true, true, true, true, true, true, true, true, true, true, true, true, true, true, true, true, true, true, false, false, false] hS (fun _ h => h) rfl rfl (by kernel_rfl) (by kernel_rfl) (by kernel_rfl) rfl rfl (fun W' hS => run_build (pv := [(0, .int .i64 _), (1, .int .i64 _), (2, .int .i64 _), (3, .slice _ _ _)]) (fun W => bd36_0_1_2_3 _ _ _ _ _ _ W) hS rfl) fun a hS => ?_
  refine anyh_go (rs := [5]) (by kernel_rfl) (by simp) ⟨⟨_, rfl, ?_⟩, trivial⟩
  refine st_store (cs' := [.slice (some ⟨b3, 0, none⟩) 2 2, .slice (some ⟨b4, 0, none⟩) 2 2, .slice (some ⟨b7, 0, none⟩) 2 2, .slice (some ⟨b8, 0, none⟩) 2 2, .slice (some ⟨b9, 0, none⟩) 2 2, .slice (some ⟨b12, 0, none⟩) 2 2, .slice (some ⟨b13, 0, none⟩) 3 3, .slice (some ⟨b14, 0, none⟩) 2 2, .slice (some ⟨b18, 0, none⟩) 3 3, .slice (some ⟨b19, 0, none⟩) 2 2, .slice (some ⟨b20, 0, none⟩) 2 2, .slice (some ⟨b23, 0, none⟩) 2 2, .slice (some ⟨b24, 0, none⟩) 2 2, .slice (some ⟨b25, 0, none⟩) 2 2, .slice (some ⟨b28, 0, none⟩) 2 2, .slice (some ⟨b29, 0, none⟩) 2 2, .slice (some ⟨b30, 0, none⟩) 2 2, .slice (some ⟨b33, 0, none⟩) 2 2, .slice (some ⟨b34, 0, none⟩) 2 2, .slice (some ⟨b35, 0, none⟩) 2 2, .slice (some ⟨b38, 0, none⟩) 2 2, .slice (some ⟨b39, 0, none⟩) 2 2, .slice (some ⟨b40, 0, none⟩) 2 2, .slice (some ⟨b43, 0, none⟩) 2 2, .int .i64 10, .int .i64 200, .int .i64 50, .int .i64 25, .int .i64 10, .int .i64 3, .int .i64 2, .int .i64 1, .int .i64 1]) (i := 47) Tryz.sizeOf29 hS rfl rfl rfl rfl rfl rfl rfl rfl rfl fun W a hS => wl_nil ?_
  try dsimp only [setB] at hS
  refine anyh_next [false, true, true, true, true, true, true, true, true, true, true, true, true, true, true, true, true, true, true, true, true, true, true, true, true, true, true, true, true, true, true, true, true, true, true, true, true, true, true, true, true, true, true, true, true, false, false, false] hS (fun _ h => h) rfl ?_
  refine anyh_go (rs := [6]) (by kernel_rfl) (by simp) ⟨⟨_, rfl, ?_⟩, trivial⟩
  refine st_store (cs' := [.int .i64 (((⟨1000, 1500⟩ : Span)).lo), .int .i64 (((⟨1000, 1500⟩ : Span)).hi), .int .i64 (((⟨0, 20⟩ : Span)).lo), .int .i64 (((⟨0, 20⟩ : Span)).hi), .int .i64 0, .int .i64 0, .int .i64 (((⟨0, 30⟩ : Span)).lo), .int .i64 (((⟨0, 30⟩ : Span)).hi)]) (i := 46) Tryz.sizeOf33 hS rfl rfl rfl rfl rfl rfl rfl rfl rfl fun W a hS => wl_nil ?_
  try dsimp only [setB] at hS
  refine anyh_next [false, true, true, true, true, true, true, true, true, true, true, true, true, true, true, true, true, true, true, true, true, true, true, true, true, true, true, true, true, true, true, true, true, true, true, true, true, true, true, true, true, true, true, true, true, false, false, false] hS (fun _ h => h) rfl ?_
  refine anyh_go (rs := [7]) (by kernel_rfl) (by simp) ⟨⟨_, rfl, ?_⟩, trivial⟩
  refine st_store (i := 45) Tryz.sizeOf36 hS rfl rfl rfl rfl rfl rfl rfl rfl rfl fun W a hS => wl_nil ?_
  try dsimp only [setB] at hS
  refine anyh_next [false, true, true, true, true, true, true, true, true, true, true, true, true, true, true, true, true, true, true, true, true, true, true, true, true, true, true, true, true, true, true, true, true, true, true, true, true, true, true, true, true, true, true, true, true, false, false, false] hS (fun _ h => h) rfl ?_
  refine anyh_done (by kernel_rfl) ?_ _
  refine wpIn_ret ?_
  repeat (first | refine q_ret ?_ | refine q_block_ret ?_)
  refine hS.done (res3 (fn := Tryz.f124) (r1 := .cell 0 29) (r2 := .cell 1 33) (r3 := .cell 2 36) rfl (rv_agg (i := 47) Tryz.isAgg29 Tryz.sizeOf29 hS rfl rfl rfl) (rv_agg (i := 46) Tryz.isAgg33 Tryz.sizeOf33 hS rfl rfl rfl) (rv_agg (i := 45) Tryz.isAgg36 Tryz.sizeOf36 hS rfl rfl rfl)) ?_
  exact ⟨⟨⟨⟨some ⟨b3, 0, none⟩, 2⟩, ⟨some ⟨b4, 0, none⟩, 2⟩, ⟨some ⟨b7, 0, none⟩, 2⟩⟩, ⟨⟨some ⟨b8, 0, none⟩, 2⟩, ⟨some ⟨b9, 0, none⟩, 2⟩, ⟨some ⟨b12, 0, none⟩, 2⟩⟩, ⟨⟨some ⟨b13, 0, none⟩, 3⟩, ⟨some ⟨b14, 0, none⟩, 2⟩, ⟨some ⟨b18, 0, none⟩, 3⟩⟩, ⟨⟨some ⟨b19, 0, none⟩, 2⟩, ⟨some ⟨b20, 0, none⟩, 2⟩, ⟨some ⟨b23, 0, none⟩, 2⟩⟩, ⟨⟨some ⟨b24, 0, none⟩, 2⟩, ⟨some ⟨b25, 0, none⟩, 2⟩, ⟨some ⟨b28, 0, none⟩, 2⟩⟩, ⟨⟨some ⟨b29, 0, none⟩, 2⟩, ⟨some ⟨b30, 0, none⟩, 2⟩, ⟨some ⟨b33, 0, none⟩, 2⟩⟩, ⟨⟨some ⟨b34, 0, none⟩, 2⟩, ⟨some ⟨b35, 0, none⟩, 2⟩, ⟨some ⟨b38, 0, none⟩, 2⟩⟩, ⟨⟨some ⟨b39, 0, none⟩, 2⟩, ⟨some ⟨b40, 0, none⟩, 2⟩, ⟨some ⟨b43, 0, none⟩, 2⟩⟩⟩, ⟨some ⟨b47, 0, none⟩, 1⟩, rfl, ⟨⟨(own_new (enc := fun x => [.int .i64 x]) (nn := 1) (bb := 8) (hb := by decide) (hl := fun _ => rfl) [1000, 2000] hS (i := 44) rfl rfl (Nat.le_of_ble_eq_true rfl)), (own_new (enc := fun x => [.int .i64 x]) (nn := 1) (bb := 8) (hb := by decide) (hl := fun _ => rfl) [0, 40] hS (i := 43) rfl rfl (Nat.le_of_ble_eq_true rfl)), (sl_rows (ys := [((⟨some ⟨b5, 0, none⟩, 2⟩ : SV), [400, 500]), ((⟨some ⟨b6, 0, none⟩, 2⟩ : SV), [900, 1100])]) (own_new (enc := eRow) (nn := 1) (bb := 24) (hb := by decide) (hl := fun _ => rfl) [((⟨some ⟨b5, 0, none⟩, 2⟩ : SV), [400, 500]), ((⟨some ⟨b6, 0, none⟩, 2⟩ : SV), [900, 1100])] hS (i := 40) rfl rfl (Nat.le_of_ble_eq_true rfl)) (by intro y hy; simp only [List.mem_cons, List.not_mem_nil, or_false] at hy; rcases hy with rfl | rfl <;> first | exact (own_new (enc := fun x => [.int .i64 x]) (nn := 1) (bb := 8) (hb := by decide) (hl := fun _ => rfl) [400, 500] hS (i := 42) rfl rfl (Nat.le_of_ble_eq_true rfl)) | exact (own_new (enc := fun x => [.int .i64 x]) (nn := 1) (bb := 8) (hb := by decide) (hl := fun _ => rfl) [900, 1100] hS (i := 41) rfl rfl (Nat.le_of_ble_eq_true rfl))))⟩,
      ⟨(own_new (enc := fun x => [.int .i64 x]) (nn := 1) (bb := 8) (hb := by decide) (hl := fun _ => rfl) [0, 20] hS (i := 39) rfl rfl (Nat.le_of_ble_eq_true rfl)), (own_new (enc := fun x => [.int .i64 x]) (nn := 1) (bb := 8) (hb := by decide) (hl := fun _ => rfl) [0, 30] hS (i := 38) rfl rfl (Nat.le_of_ble_eq_true rfl)), (sl_rows (ys := [((⟨some ⟨b10, 0, none⟩, 2⟩ : SV), [70, 80]), ((⟨some ⟨b11, 0, none⟩, 2⟩ : SV), [100, 100])]) (own_new (enc := eRow) (nn := 1) (bb := 24) (hb := by decide) (hl := fun _ => rfl) [((⟨some ⟨b10, 0, none⟩, 2⟩ : SV), [70, 80]), ((⟨some ⟨b11, 0, none⟩, 2⟩ : SV), [100, 100])] hS (i := 35) rfl rfl (Nat.le_of_ble_eq_true rfl)) (by intro y hy; simp only [List.mem_cons, List.not_mem_nil, or_false] at hy; rcases hy with rfl | rfl <;> first | exact (own_new (enc := fun x => [.int .i64 x]) (nn := 1) (bb := 8) (hb := by decide) (hl := fun _ => rfl) [70, 80] hS (i := 37) rfl rfl (Nat.le_of_ble_eq_true rfl)) | exact (own_new (enc := fun x => [.int .i64 x]) (nn := 1) (bb := 8) (hb := by decide) (hl := fun _ => rfl) [100, 100] hS (i := 36) rfl rfl (Nat.le_of_ble_eq_true rfl))))⟩,
      ⟨(own_new (enc := fun x => [.int .i64 x]) (nn := 1) (bb := 8) (hb := by decide) (hl := fun _ => rfl) [0, 50, 100] hS (i := 34) rfl rfl (Nat.le_of_ble_eq_true rfl)), (own_new (enc := fun x => [.int .i64 x]) (nn := 1) (bb := 8) (hb := by decide) (hl := fun _ => rfl) [1000, 2000] hS (i := 33) rfl rfl (Nat.le_of_ble_eq_true rfl)), (sl_rows (ys := [((⟨some ⟨b15, 0, none⟩, 2⟩ : SV), [400, 900]), ((⟨some ⟨b16, 0, none⟩, 2⟩ : SV), [250, 500]), ((⟨some ⟨b17, 0, none⟩, 2⟩ : SV), [500, 800])]) (own_new (enc := eRow) (nn := 1) (bb := 24) (hb := by decide) (hl := fun _ => rfl) [((⟨some ⟨b15, 0, none⟩, 2⟩ : SV), [400, 900]), ((⟨some ⟨b16, 0, none⟩, 2⟩ : SV), [250, 500]), ((⟨some ⟨b17, 0, none⟩, 2⟩ : SV), [500, 800])] hS (i := 29) rfl rfl (Nat.le_of_ble_eq_true rfl)) (by intro y hy; simp only [List.mem_cons, List.not_mem_nil, or_false] at hy; rcases hy with rfl | rfl | rfl <;> first | exact (own_new (enc := fun x => [.int .i64 x]) (nn := 1) (bb := 8) (hb := by decide) (hl := fun _ => rfl) [400, 900] hS (i := 32) rfl rfl (Nat.le_of_ble_eq_true rfl)) | exact (own_new (enc := fun x => [.int .i64 x]) (nn := 1) (bb := 8) (hb := by decide) (hl := fun _ => rfl) [250, 500] hS (i := 31) rfl rfl (Nat.le_of_ble_eq_true rfl)) | exact (own_new (enc := fun x => [.int .i64 x]) (nn := 1) (bb := 8) (hb := by decide) (hl := fun _ => rfl) [500, 800] hS (i := 30) rfl rfl (Nat.le_of_ble_eq_true rfl))))⟩,
      ⟨(own_new (enc := fun x => [.int .i64 x]) (nn := 1) (bb := 8) (hb := by decide) (hl := fun _ => rfl) [0, 40] hS (i := 28) rfl rfl (Nat.le_of_ble_eq_true rfl)), (own_new (enc := fun x => [.int .i64 x]) (nn := 1) (bb := 8) (hb := by decide) (hl := fun _ => rfl) [0, 1000] hS (i := 27) rfl rfl (Nat.le_of_ble_eq_true rfl)), (sl_rows (ys := [((⟨some ⟨b21, 0, none⟩, 2⟩ : SV), [1200, 1000]), ((⟨some ⟨b22, 0, none⟩, 2⟩ : SV), [1000, 800])]) (own_new (enc := eRow) (nn := 1) (bb := 24) (hb := by decide) (hl := fun _ => rfl) [((⟨some ⟨b21, 0, none⟩, 2⟩ : SV), [1200, 1000]), ((⟨some ⟨b22, 0, none⟩, 2⟩ : SV), [1000, 800])] hS (i := 24) rfl rfl (Nat.le_of_ble_eq_true rfl)) (by intro y hy; simp only [List.mem_cons, List.not_mem_nil, or_false] at hy; rcases hy with rfl | rfl <;> first | exact (own_new (enc := fun x => [.int .i64 x]) (nn := 1) (bb := 8) (hb := by decide) (hl := fun _ => rfl) [1200, 1000] hS (i := 26) rfl rfl (Nat.le_of_ble_eq_true rfl)) | exact (own_new (enc := fun x => [.int .i64 x]) (nn := 1) (bb := 8) (hb := by decide) (hl := fun _ => rfl) [1000, 800] hS (i := 25) rfl rfl (Nat.le_of_ble_eq_true rfl))))⟩,
      ⟨(own_new (enc := fun x => [.int .i64 x]) (nn := 1) (bb := 8) (hb := by decide) (hl := fun _ => rfl) [1000, 2000] hS (i := 23) rfl rfl (Nat.le_of_ble_eq_true rfl)), (own_new (enc := fun x => [.int .i64 x]) (nn := 1) (bb := 8) (hb := by decide) (hl := fun _ => rfl) [0, 40] hS (i := 22) rfl rfl (Nat.le_of_ble_eq_true rfl)), (sl_rows (ys := [((⟨some ⟨b26, 0, none⟩, 2⟩ : SV), [120, 110]), ((⟨some ⟨b27, 0, none⟩, 2⟩ : SV), [100, 90])]) (own_new (enc := eRow) (nn := 1) (bb := 24) (hb := by decide) (hl := fun _ => rfl) [((⟨some ⟨b26, 0, none⟩, 2⟩ : SV), [120, 110]), ((⟨some ⟨b27, 0, none⟩, 2⟩ : SV), [100, 90])] hS (i := 19) rfl rfl (Nat.le_of_ble_eq_true rfl)) (by intro y hy; simp only [List.mem_cons, List.not_mem_nil, or_false] at hy; rcases hy with rfl | rfl <;> first | exact (own_new (enc := fun x => [.int .i64 x]) (nn := 1) (bb := 8) (hb := by decide) (hl := fun _ => rfl) [120, 110] hS (i := 21) rfl rfl (Nat.le_of_ble_eq_true rfl)) | exact (own_new (enc := fun x => [.int .i64 x]) (nn := 1) (bb := 8) (hb := by decide) (hl := fun _ => rfl) [100, 90] hS (i := 20) rfl rfl (Nat.le_of_ble_eq_true rfl))))⟩,
      ⟨(own_new (enc := fun x => [.int .i64 x]) (nn := 1) (bb := 8) (hb := by decide) (hl := fun _ => rfl) [0, 30] hS (i := 18) rfl rfl (Nat.le_of_ble_eq_true rfl)), (own_new (enc := fun x => [.int .i64 x]) (nn := 1) (bb := 8) (hb := by decide) (hl := fun _ => rfl) [1000, 2000] hS (i := 17) rfl rfl (Nat.le_of_ble_eq_true rfl)), (sl_rows (ys := [((⟨some ⟨b31, 0, none⟩, 2⟩ : SV), [5, 6]), ((⟨some ⟨b32, 0, none⟩, 2⟩ : SV), [12, 14])]) (own_new (enc := eRow) (nn := 1) (bb := 24) (hb := by decide) (hl := fun _ => rfl) [((⟨some ⟨b31, 0, none⟩, 2⟩ : SV), [5, 6]), ((⟨some ⟨b32, 0, none⟩, 2⟩ : SV), [12, 14])] hS (i := 14) rfl rfl (Nat.le_of_ble_eq_true rfl)) (by intro y hy; simp only [List.mem_cons, List.not_mem_nil, or_false] at hy; rcases hy with rfl | rfl <;> first | exact (own_new (enc := fun x => [.int .i64 x]) (nn := 1) (bb := 8) (hb := by decide) (hl := fun _ => rfl) [5, 6] hS (i := 16) rfl rfl (Nat.le_of_ble_eq_true rfl)) | exact (own_new (enc := fun x => [.int .i64 x]) (nn := 1) (bb := 8) (hb := by decide) (hl := fun _ => rfl) [12, 14] hS (i := 15) rfl rfl (Nat.le_of_ble_eq_true rfl))))⟩,
      ⟨(own_new (enc := fun x => [.int .i64 x]) (nn := 1) (bb := 8) (hb := by decide) (hl := fun _ => rfl) [0, 30] hS (i := 13) rfl rfl (Nat.le_of_ble_eq_true rfl)), (own_new (enc := fun x => [.int .i64 x]) (nn := 1) (bb := 8) (hb := by decide) (hl := fun _ => rfl) [1000, 2000] hS (i := 12) rfl rfl (Nat.le_of_ble_eq_true rfl)), (sl_rows (ys := [((⟨some ⟨b36, 0, none⟩, 2⟩ : SV), [15, 18]), ((⟨some ⟨b37, 0, none⟩, 2⟩ : SV), [12, 14])]) (own_new (enc := eRow) (nn := 1) (bb := 24) (hb := by decide) (hl := fun _ => rfl) [((⟨some ⟨b36, 0, none⟩, 2⟩ : SV), [15, 18]), ((⟨some ⟨b37, 0, none⟩, 2⟩ : SV), [12, 14])] hS (i := 9) rfl rfl (Nat.le_of_ble_eq_true rfl)) (by intro y hy; simp only [List.mem_cons, List.not_mem_nil, or_false] at hy; rcases hy with rfl | rfl <;> first | exact (own_new (enc := fun x => [.int .i64 x]) (nn := 1) (bb := 8) (hb := by decide) (hl := fun _ => rfl) [15, 18] hS (i := 11) rfl rfl (Nat.le_of_ble_eq_true rfl)) | exact (own_new (enc := fun x => [.int .i64 x]) (nn := 1) (bb := 8) (hb := by decide) (hl := fun _ => rfl) [12, 14] hS (i := 10) rfl rfl (Nat.le_of_ble_eq_true rfl))))⟩,
      ⟨(own_new (enc := fun x => [.int .i64 x]) (nn := 1) (bb := 8) (hb := by decide) (hl := fun _ => rfl) [30, 90] hS (i := 8) rfl rfl (Nat.le_of_ble_eq_true rfl)), (own_new (enc := fun x => [.int .i64 x]) (nn := 1) (bb := 8) (hb := by decide) (hl := fun _ => rfl) [1000, 2000] hS (i := 7) rfl rfl (Nat.le_of_ble_eq_true rfl)), (sl_rows (ys := [((⟨some ⟨b41, 0, none⟩, 2⟩ : SV), [20, 24]), ((⟨some ⟨b42, 0, none⟩, 2⟩ : SV), [16, 20])]) (own_new (enc := eRow) (nn := 1) (bb := 24) (hb := by decide) (hl := fun _ => rfl) [((⟨some ⟨b41, 0, none⟩, 2⟩ : SV), [20, 24]), ((⟨some ⟨b42, 0, none⟩, 2⟩ : SV), [16, 20])] hS (i := 4) rfl rfl (Nat.le_of_ble_eq_true rfl)) (by intro y hy; simp only [List.mem_cons, List.not_mem_nil, or_false] at hy; rcases hy with rfl | rfl <;> first | exact (own_new (enc := fun x => [.int .i64 x]) (nn := 1) (bb := 8) (hb := by decide) (hl := fun _ => rfl) [20, 24] hS (i := 6) rfl rfl (Nat.le_of_ble_eq_true rfl)) | exact (own_new (enc := fun x => [.int .i64 x]) (nn := 1) (bb := 8) (hb := by decide) (hl := fun _ => rfl) [16, 20] hS (i := 5) rfl rfl (Nat.le_of_ble_eq_true rfl))))⟩⟩, (own_new (enc := hindC) (nn := 2) (bb := 16) (hb := by decide) (hl := fun _ => rfl) [⟨6, 2⟩] hS (i := 0) rfl rfl (Nat.le_of_ble_eq_true rfl))⟩
 ·
  refine st_store (cs' := [.slice (some ⟨b3, 0, none⟩) 2 2, .slice (some ⟨b4, 0, none⟩) 2 2, .slice (some ⟨b7, 0, none⟩) 2 2, .slice (some ⟨b8, 0, none⟩) 2 2, .slice (some ⟨b9, 0, none⟩) 2 2, .slice (some ⟨b12, 0, none⟩) 2 2, .slice (some ⟨b13, 0, none⟩) 3 3, .slice (some ⟨b14, 0, none⟩) 2 2, .slice (some ⟨b18, 0, none⟩) 3 3, .slice (some ⟨b19, 0, none⟩) 2 2, .slice (some ⟨b20, 0, none⟩) 2 2, .slice (some ⟨b23, 0, none⟩) 2 2, .slice (some ⟨b24, 0, none⟩) 2 2, .slice (some ⟨b25, 0, none⟩) 2 2, .slice (some ⟨b28, 0, none⟩) 2 2, .slice (some ⟨b29, 0, none⟩) 2 2, .slice (some ⟨b30, 0, none⟩) 2 2, .slice (some ⟨b33, 0, none⟩) 2 2, .slice (some ⟨b34, 0, none⟩) 2 2, .slice (some ⟨b35, 0, none⟩) 2 2, .slice (some ⟨b38, 0, none⟩) 2 2, .slice (some ⟨b39, 0, none⟩) 2 2, .slice (some ⟨b40, 0, none⟩) 2 2, .slice (some ⟨b43, 0, none⟩) 2 2, .int .i64 10, .int .i64 200, .int .i64 50, .int .i64 25, .int .i64 10, .int .i64 3, .int .i64 2, .int .i64 1, .int .i64 1]) (i := 46) Tryz.sizeOf29 hS rfl rfl rfl rfl rfl rfl rfl rfl rfl fun W a hS => wl_nil ?_
  try dsimp only [setB] at hS
  refine anyh_next [true, true, true, true, true, true, true, true, true, true, true, true, true, true, true, true, true, true, true, true, true, true, true, true, true, true, true, true, true, true, true, true, true, true, true, true, true, true, true, true, true, true, true, true, false, false, false] hS (fun _ h => h) rfl ?_
  refine anyh_go (rs := [3, 6]) (by kernel_rfl) (by simp) ⟨⟨_, rfl, ?_⟩, ⟨_, rfl, ?_⟩, trivial⟩
  ·
   refine st_buildSlice (pv := [(0, .agg #[.int .i64 _, .int .i64 _])]) (fun W => bs34_1_0 _ _ W) hS rfl rfl rfl fun W a b48 hS => wl_nil ?_
   refine anyh_next [false, true, true, true, true, true, true, true, true, true, true, true, true, true, true, true, true, true, true, true, true, true, true, true, true, true, true, true, true, true, true, true, true, true, true, true, true, true, true, true, true, true, true, true, true, false, false, false] hS (fun _ h => h) rfl ?_
   refine anyh_take (i := 4) [false, true, true, true, true, true, true, true, true, true, true, true, true, true, true, true, true, true, true, true, true, true, true, true, true, true, true, true, true, true, true, true, true, true, true, true, true, true, true, true, true, true, true, true, true, false, false, false] hS (fun _ h => h) rfl rfl (by kernel_rfl) (by kernel_rfl) (by kernel_rfl) rfl rfl (fun W' hS => run_build (pv := [(0, .int .i64 _), (1, .int .i64 _), (2, .int .i64 _), (3, .slice _ _ _)]) (fun W => bd36_0_1_2_3 _ _ _ _ _ _ W) hS rfl) fun a hS => ?_
   refine anyh_go (rs := [6]) (by kernel_rfl) (by simp) ⟨⟨_, rfl, ?_⟩, trivial⟩
   refine st_store (cs' := [.int .i64 (((⟨1000, 1500⟩ : Span)).lo), .int .i64 (((⟨1000, 1500⟩ : Span)).hi), .int .i64 (((⟨0, 20⟩ : Span)).lo), .int .i64 (((⟨0, 20⟩ : Span)).hi), .int .i64 0, .int .i64 0, .int .i64 (((⟨0, 30⟩ : Span)).lo), .int .i64 (((⟨0, 30⟩ : Span)).hi)]) (i := 46) Tryz.sizeOf33 hS rfl rfl rfl rfl rfl rfl rfl rfl rfl fun W a hS => wl_nil ?_
   try dsimp only [setB] at hS
   refine anyh_next [false, true, true, true, true, true, true, true, true, true, true, true, true, true, true, true, true, true, true, true, true, true, true, true, true, true, true, true, true, true, true, true, true, true, true, true, true, true, true, true, true, true, true, true, true, false, false, false] hS (fun _ h => h) rfl ?_
   refine anyh_go (rs := [7]) (by kernel_rfl) (by simp) ⟨⟨_, rfl, ?_⟩, trivial⟩
   refine st_store (i := 45) Tryz.sizeOf36 hS rfl rfl rfl rfl rfl rfl rfl rfl rfl fun W a hS => wl_nil ?_
   try dsimp only [setB] at hS
   refine anyh_next [false, true, true, true, true, true, true, true, true, true, true, true, true, true, true, true, true, true, true, true, true, true, true, true, true, true, true, true, true, true, true, true, true, true, true, true, true, true, true, true, true, true, true, true, true, false, false, false] hS (fun _ h => h) rfl ?_
   refine anyh_done (by kernel_rfl) ?_ _
   refine wpIn_ret ?_
   repeat (first | refine q_ret ?_ | refine q_block_ret ?_)
   refine hS.done (res3 (fn := Tryz.f124) (r1 := .cell 0 29) (r2 := .cell 1 33) (r3 := .cell 2 36) rfl (rv_agg (i := 47) Tryz.isAgg29 Tryz.sizeOf29 hS rfl rfl rfl) (rv_agg (i := 46) Tryz.isAgg33 Tryz.sizeOf33 hS rfl rfl rfl) (rv_agg (i := 45) Tryz.isAgg36 Tryz.sizeOf36 hS rfl rfl rfl)) ?_
   exact ⟨⟨⟨⟨some ⟨b3, 0, none⟩, 2⟩, ⟨some ⟨b4, 0, none⟩, 2⟩, ⟨some ⟨b7, 0, none⟩, 2⟩⟩, ⟨⟨some ⟨b8, 0, none⟩, 2⟩, ⟨some ⟨b9, 0, none⟩, 2⟩, ⟨some ⟨b12, 0, none⟩, 2⟩⟩, ⟨⟨some ⟨b13, 0, none⟩, 3⟩, ⟨some ⟨b14, 0, none⟩, 2⟩, ⟨some ⟨b18, 0, none⟩, 3⟩⟩, ⟨⟨some ⟨b19, 0, none⟩, 2⟩, ⟨some ⟨b20, 0, none⟩, 2⟩, ⟨some ⟨b23, 0, none⟩, 2⟩⟩, ⟨⟨some ⟨b24, 0, none⟩, 2⟩, ⟨some ⟨b25, 0, none⟩, 2⟩, ⟨some ⟨b28, 0, none⟩, 2⟩⟩, ⟨⟨some ⟨b29, 0, none⟩, 2⟩, ⟨some ⟨b30, 0, none⟩, 2⟩, ⟨some ⟨b33, 0, none⟩, 2⟩⟩, ⟨⟨some ⟨b34, 0, none⟩, 2⟩, ⟨some ⟨b35, 0, none⟩, 2⟩, ⟨some ⟨b38, 0, none⟩, 2⟩⟩, ⟨⟨some ⟨b39, 0, none⟩, 2⟩, ⟨some ⟨b40, 0, none⟩, 2⟩, ⟨some ⟨b43, 0, none⟩, 2⟩⟩⟩, ⟨some ⟨b48, 0, none⟩, 1⟩, rfl, ⟨⟨(own_new (enc := fun x => [.int .i64 x]) (nn := 1) (bb := 8) (hb := by decide) (hl := fun _ => rfl) [1000, 2000] hS (i := 44) rfl rfl (Nat.le_of_ble_eq_true rfl)), (own_new (enc := fun x => [.int .i64 x]) (nn := 1) (bb := 8) (hb := by decide) (hl := fun _ => rfl) [0, 40] hS (i := 43) rfl rfl (Nat.le_of_ble_eq_true rfl)), (sl_rows (ys := [((⟨some ⟨b5, 0, none⟩, 2⟩ : SV), [400, 500]), ((⟨some ⟨b6, 0, none⟩, 2⟩ : SV), [900, 1100])]) (own_new (enc := eRow) (nn := 1) (bb := 24) (hb := by decide) (hl := fun _ => rfl) [((⟨some ⟨b5, 0, none⟩, 2⟩ : SV), [400, 500]), ((⟨some ⟨b6, 0, none⟩, 2⟩ : SV), [900, 1100])] hS (i := 40) rfl rfl (Nat.le_of_ble_eq_true rfl)) (by intro y hy; simp only [List.mem_cons, List.not_mem_nil, or_false] at hy; rcases hy with rfl | rfl <;> first | exact (own_new (enc := fun x => [.int .i64 x]) (nn := 1) (bb := 8) (hb := by decide) (hl := fun _ => rfl) [400, 500] hS (i := 42) rfl rfl (Nat.le_of_ble_eq_true rfl)) | exact (own_new (enc := fun x => [.int .i64 x]) (nn := 1) (bb := 8) (hb := by decide) (hl := fun _ => rfl) [900, 1100] hS (i := 41) rfl rfl (Nat.le_of_ble_eq_true rfl))))⟩,
       ⟨(own_new (enc := fun x => [.int .i64 x]) (nn := 1) (bb := 8) (hb := by decide) (hl := fun _ => rfl) [0, 20] hS (i := 39) rfl rfl (Nat.le_of_ble_eq_true rfl)), (own_new (enc := fun x => [.int .i64 x]) (nn := 1) (bb := 8) (hb := by decide) (hl := fun _ => rfl) [0, 30] hS (i := 38) rfl rfl (Nat.le_of_ble_eq_true rfl)), (sl_rows (ys := [((⟨some ⟨b10, 0, none⟩, 2⟩ : SV), [70, 80]), ((⟨some ⟨b11, 0, none⟩, 2⟩ : SV), [100, 100])]) (own_new (enc := eRow) (nn := 1) (bb := 24) (hb := by decide) (hl := fun _ => rfl) [((⟨some ⟨b10, 0, none⟩, 2⟩ : SV), [70, 80]), ((⟨some ⟨b11, 0, none⟩, 2⟩ : SV), [100, 100])] hS (i := 35) rfl rfl (Nat.le_of_ble_eq_true rfl)) (by intro y hy; simp only [List.mem_cons, List.not_mem_nil, or_false] at hy; rcases hy with rfl | rfl <;> first | exact (own_new (enc := fun x => [.int .i64 x]) (nn := 1) (bb := 8) (hb := by decide) (hl := fun _ => rfl) [70, 80] hS (i := 37) rfl rfl (Nat.le_of_ble_eq_true rfl)) | exact (own_new (enc := fun x => [.int .i64 x]) (nn := 1) (bb := 8) (hb := by decide) (hl := fun _ => rfl) [100, 100] hS (i := 36) rfl rfl (Nat.le_of_ble_eq_true rfl))))⟩,
       ⟨(own_new (enc := fun x => [.int .i64 x]) (nn := 1) (bb := 8) (hb := by decide) (hl := fun _ => rfl) [0, 50, 100] hS (i := 34) rfl rfl (Nat.le_of_ble_eq_true rfl)), (own_new (enc := fun x => [.int .i64 x]) (nn := 1) (bb := 8) (hb := by decide) (hl := fun _ => rfl) [1000, 2000] hS (i := 33) rfl rfl (Nat.le_of_ble_eq_true rfl)), (sl_rows (ys := [((⟨some ⟨b15, 0, none⟩, 2⟩ : SV), [400, 900]), ((⟨some ⟨b16, 0, none⟩, 2⟩ : SV), [250, 500]), ((⟨some ⟨b17, 0, none⟩, 2⟩ : SV), [500, 800])]) (own_new (enc := eRow) (nn := 1) (bb := 24) (hb := by decide) (hl := fun _ => rfl) [((⟨some ⟨b15, 0, none⟩, 2⟩ : SV), [400, 900]), ((⟨some ⟨b16, 0, none⟩, 2⟩ : SV), [250, 500]), ((⟨some ⟨b17, 0, none⟩, 2⟩ : SV), [500, 800])] hS (i := 29) rfl rfl (Nat.le_of_ble_eq_true rfl)) (by intro y hy; simp only [List.mem_cons, List.not_mem_nil, or_false] at hy; rcases hy with rfl | rfl | rfl <;> first | exact (own_new (enc := fun x => [.int .i64 x]) (nn := 1) (bb := 8) (hb := by decide) (hl := fun _ => rfl) [400, 900] hS (i := 32) rfl rfl (Nat.le_of_ble_eq_true rfl)) | exact (own_new (enc := fun x => [.int .i64 x]) (nn := 1) (bb := 8) (hb := by decide) (hl := fun _ => rfl) [250, 500] hS (i := 31) rfl rfl (Nat.le_of_ble_eq_true rfl)) | exact (own_new (enc := fun x => [.int .i64 x]) (nn := 1) (bb := 8) (hb := by decide) (hl := fun _ => rfl) [500, 800] hS (i := 30) rfl rfl (Nat.le_of_ble_eq_true rfl))))⟩,
       ⟨(own_new (enc := fun x => [.int .i64 x]) (nn := 1) (bb := 8) (hb := by decide) (hl := fun _ => rfl) [0, 40] hS (i := 28) rfl rfl (Nat.le_of_ble_eq_true rfl)), (own_new (enc := fun x => [.int .i64 x]) (nn := 1) (bb := 8) (hb := by decide) (hl := fun _ => rfl) [0, 1000] hS (i := 27) rfl rfl (Nat.le_of_ble_eq_true rfl)), (sl_rows (ys := [((⟨some ⟨b21, 0, none⟩, 2⟩ : SV), [1200, 1000]), ((⟨some ⟨b22, 0, none⟩, 2⟩ : SV), [1000, 800])]) (own_new (enc := eRow) (nn := 1) (bb := 24) (hb := by decide) (hl := fun _ => rfl) [((⟨some ⟨b21, 0, none⟩, 2⟩ : SV), [1200, 1000]), ((⟨some ⟨b22, 0, none⟩, 2⟩ : SV), [1000, 800])] hS (i := 24) rfl rfl (Nat.le_of_ble_eq_true rfl)) (by intro y hy; simp only [List.mem_cons, List.not_mem_nil, or_false] at hy; rcases hy with rfl | rfl <;> first | exact (own_new (enc := fun x => [.int .i64 x]) (nn := 1) (bb := 8) (hb := by decide) (hl := fun _ => rfl) [1200, 1000] hS (i := 26) rfl rfl (Nat.le_of_ble_eq_true rfl)) | exact (own_new (enc := fun x => [.int .i64 x]) (nn := 1) (bb := 8) (hb := by decide) (hl := fun _ => rfl) [1000, 800] hS (i := 25) rfl rfl (Nat.le_of_ble_eq_true rfl))))⟩,
       ⟨(own_new (enc := fun x => [.int .i64 x]) (nn := 1) (bb := 8) (hb := by decide) (hl := fun _ => rfl) [1000, 2000] hS (i := 23) rfl rfl (Nat.le_of_ble_eq_true rfl)), (own_new (enc := fun x => [.int .i64 x]) (nn := 1) (bb := 8) (hb := by decide) (hl := fun _ => rfl) [0, 40] hS (i := 22) rfl rfl (Nat.le_of_ble_eq_true rfl)), (sl_rows (ys := [((⟨some ⟨b26, 0, none⟩, 2⟩ : SV), [120, 110]), ((⟨some ⟨b27, 0, none⟩, 2⟩ : SV), [100, 90])]) (own_new (enc := eRow) (nn := 1) (bb := 24) (hb := by decide) (hl := fun _ => rfl) [((⟨some ⟨b26, 0, none⟩, 2⟩ : SV), [120, 110]), ((⟨some ⟨b27, 0, none⟩, 2⟩ : SV), [100, 90])] hS (i := 19) rfl rfl (Nat.le_of_ble_eq_true rfl)) (by intro y hy; simp only [List.mem_cons, List.not_mem_nil, or_false] at hy; rcases hy with rfl | rfl <;> first | exact (own_new (enc := fun x => [.int .i64 x]) (nn := 1) (bb := 8) (hb := by decide) (hl := fun _ => rfl) [120, 110] hS (i := 21) rfl rfl (Nat.le_of_ble_eq_true rfl)) | exact (own_new (enc := fun x => [.int .i64 x]) (nn := 1) (bb := 8) (hb := by decide) (hl := fun _ => rfl) [100, 90] hS (i := 20) rfl rfl (Nat.le_of_ble_eq_true rfl))))⟩,
       ⟨(own_new (enc := fun x => [.int .i64 x]) (nn := 1) (bb := 8) (hb := by decide) (hl := fun _ => rfl) [0, 30] hS (i := 18) rfl rfl (Nat.le_of_ble_eq_true rfl)), (own_new (enc := fun x => [.int .i64 x]) (nn := 1) (bb := 8) (hb := by decide) (hl := fun _ => rfl) [1000, 2000] hS (i := 17) rfl rfl (Nat.le_of_ble_eq_true rfl)), (sl_rows (ys := [((⟨some ⟨b31, 0, none⟩, 2⟩ : SV), [5, 6]), ((⟨some ⟨b32, 0, none⟩, 2⟩ : SV), [12, 14])]) (own_new (enc := eRow) (nn := 1) (bb := 24) (hb := by decide) (hl := fun _ => rfl) [((⟨some ⟨b31, 0, none⟩, 2⟩ : SV), [5, 6]), ((⟨some ⟨b32, 0, none⟩, 2⟩ : SV), [12, 14])] hS (i := 14) rfl rfl (Nat.le_of_ble_eq_true rfl)) (by intro y hy; simp only [List.mem_cons, List.not_mem_nil, or_false] at hy; rcases hy with rfl | rfl <;> first | exact (own_new (enc := fun x => [.int .i64 x]) (nn := 1) (bb := 8) (hb := by decide) (hl := fun _ => rfl) [5, 6] hS (i := 16) rfl rfl (Nat.le_of_ble_eq_true rfl)) | exact (own_new (enc := fun x => [.int .i64 x]) (nn := 1) (bb := 8) (hb := by decide) (hl := fun _ => rfl) [12, 14] hS (i := 15) rfl rfl (Nat.le_of_ble_eq_true rfl))))⟩,
       ⟨(own_new (enc := fun x => [.int .i64 x]) (nn := 1) (bb := 8) (hb := by decide) (hl := fun _ => rfl) [0, 30] hS (i := 13) rfl rfl (Nat.le_of_ble_eq_true rfl)), (own_new (enc := fun x => [.int .i64 x]) (nn := 1) (bb := 8) (hb := by decide) (hl := fun _ => rfl) [1000, 2000] hS (i := 12) rfl rfl (Nat.le_of_ble_eq_true rfl)), (sl_rows (ys := [((⟨some ⟨b36, 0, none⟩, 2⟩ : SV), [15, 18]), ((⟨some ⟨b37, 0, none⟩, 2⟩ : SV), [12, 14])]) (own_new (enc := eRow) (nn := 1) (bb := 24) (hb := by decide) (hl := fun _ => rfl) [((⟨some ⟨b36, 0, none⟩, 2⟩ : SV), [15, 18]), ((⟨some ⟨b37, 0, none⟩, 2⟩ : SV), [12, 14])] hS (i := 9) rfl rfl (Nat.le_of_ble_eq_true rfl)) (by intro y hy; simp only [List.mem_cons, List.not_mem_nil, or_false] at hy; rcases hy with rfl | rfl <;> first | exact (own_new (enc := fun x => [.int .i64 x]) (nn := 1) (bb := 8) (hb := by decide) (hl := fun _ => rfl) [15, 18] hS (i := 11) rfl rfl (Nat.le_of_ble_eq_true rfl)) | exact (own_new (enc := fun x => [.int .i64 x]) (nn := 1) (bb := 8) (hb := by decide) (hl := fun _ => rfl) [12, 14] hS (i := 10) rfl rfl (Nat.le_of_ble_eq_true rfl))))⟩,
       ⟨(own_new (enc := fun x => [.int .i64 x]) (nn := 1) (bb := 8) (hb := by decide) (hl := fun _ => rfl) [30, 90] hS (i := 8) rfl rfl (Nat.le_of_ble_eq_true rfl)), (own_new (enc := fun x => [.int .i64 x]) (nn := 1) (bb := 8) (hb := by decide) (hl := fun _ => rfl) [1000, 2000] hS (i := 7) rfl rfl (Nat.le_of_ble_eq_true rfl)), (sl_rows (ys := [((⟨some ⟨b41, 0, none⟩, 2⟩ : SV), [20, 24]), ((⟨some ⟨b42, 0, none⟩, 2⟩ : SV), [16, 20])]) (own_new (enc := eRow) (nn := 1) (bb := 24) (hb := by decide) (hl := fun _ => rfl) [((⟨some ⟨b41, 0, none⟩, 2⟩ : SV), [20, 24]), ((⟨some ⟨b42, 0, none⟩, 2⟩ : SV), [16, 20])] hS (i := 4) rfl rfl (Nat.le_of_ble_eq_true rfl)) (by intro y hy; simp only [List.mem_cons, List.not_mem_nil, or_false] at hy; rcases hy with rfl | rfl <;> first | exact (own_new (enc := fun x => [.int .i64 x]) (nn := 1) (bb := 8) (hb := by decide) (hl := fun _ => rfl) [20, 24] hS (i := 6) rfl rfl (Nat.le_of_ble_eq_true rfl)) | exact (own_new (enc := fun x => [.int .i64 x]) (nn := 1) (bb := 8) (hb := by decide) (hl := fun _ => rfl) [16, 20] hS (i := 5) rfl rfl (Nat.le_of_ble_eq_true rfl))))⟩⟩, (own_new (enc := hindC) (nn := 2) (bb := 16) (hb := by decide) (hl := fun _ => rfl) [⟨6, 2⟩] hS (i := 0) rfl rfl (Nat.le_of_ble_eq_true rfl))⟩
  ·
   refine st_store (cs' := [.int .i64 (((⟨1000, 1500⟩ : Span)).lo), .int .i64 (((⟨1000, 1500⟩ : Span)).hi), .int .i64 (((⟨0, 20⟩ : Span)).lo), .int .i64 (((⟨0, 20⟩ : Span)).hi), .int .i64 0, .int .i64 0, .int .i64 (((⟨0, 30⟩ : Span)).lo), .int .i64 (((⟨0, 30⟩ : Span)).hi)]) (i := 45) Tryz.sizeOf33 hS rfl rfl rfl rfl rfl rfl rfl rfl rfl fun W a hS => wl_nil ?_
   try dsimp only [setB] at hS
   refine anyh_next [true, true, true, true, true, true, true, true, true, true, true, true, true, true, true, true, true, true, true, true, true, true, true, true, true, true, true, true, true, true, true, true, true, true, true, true, true, true, true, true, true, true, true, true, false, false, false] hS (fun _ h => h) rfl ?_
   refine anyh_go (rs := [3]) (by kernel_rfl) (by simp) ⟨⟨_, rfl, ?_⟩, trivial⟩
   refine st_buildSlice (pv := [(0, .agg #[.int .i64 _, .int .i64 _])]) (fun W => bs34_1_0 _ _ W) hS rfl rfl rfl fun W a b49 hS => wl_nil ?_
   refine anyh_next [false, true, true, true, true, true, true, true, true, true, true, true, true, true, true, true, true, true, true, true, true, true, true, true, true, true, true, true, true, true, true, true, true, true, true, true, true, true, true, true, true, true, true, true, true, false, false, false] hS (fun _ h => h) rfl ?_
   refine anyh_take (i := 4) [false, true, true, true, true, true, true, true, true, true, true, true, true, true, true, true, true, true, true, true, true, true, true, true, true, true, true, true, true, true, true, true, true, true, true, true, true, true, true, true, true, true, true, true, true, false, false, false] hS (fun _ h => h) rfl rfl (by kernel_rfl) (by kernel_rfl) (by kernel_rfl) rfl rfl (fun W' hS => run_build (pv := [(0, .int .i64 _), (1, .int .i64 _), (2, .int .i64 _), (3, .slice _ _ _)]) (fun W => bd36_0_1_2_3 _ _ _ _ _ _ W) hS rfl) fun a hS => ?_
   refine anyh_go (rs := [7]) (by kernel_rfl) (by simp) ⟨⟨_, rfl, ?_⟩, trivial⟩
   refine st_store (i := 45) Tryz.sizeOf36 hS rfl rfl rfl rfl rfl rfl rfl rfl rfl fun W a hS => wl_nil ?_
   try dsimp only [setB] at hS
   refine anyh_next [false, true, true, true, true, true, true, true, true, true, true, true, true, true, true, true, true, true, true, true, true, true, true, true, true, true, true, true, true, true, true, true, true, true, true, true, true, true, true, true, true, true, true, true, true, false, false, false] hS (fun _ h => h) rfl ?_
   refine anyh_done (by kernel_rfl) ?_ _
   refine wpIn_ret ?_
   repeat (first | refine q_ret ?_ | refine q_block_ret ?_)
   refine hS.done (res3 (fn := Tryz.f124) (r1 := .cell 0 29) (r2 := .cell 1 33) (r3 := .cell 2 36) rfl (rv_agg (i := 47) Tryz.isAgg29 Tryz.sizeOf29 hS rfl rfl rfl) (rv_agg (i := 46) Tryz.isAgg33 Tryz.sizeOf33 hS rfl rfl rfl) (rv_agg (i := 45) Tryz.isAgg36 Tryz.sizeOf36 hS rfl rfl rfl)) ?_
   exact ⟨⟨⟨⟨some ⟨b3, 0, none⟩, 2⟩, ⟨some ⟨b4, 0, none⟩, 2⟩, ⟨some ⟨b7, 0, none⟩, 2⟩⟩, ⟨⟨some ⟨b8, 0, none⟩, 2⟩, ⟨some ⟨b9, 0, none⟩, 2⟩, ⟨some ⟨b12, 0, none⟩, 2⟩⟩, ⟨⟨some ⟨b13, 0, none⟩, 3⟩, ⟨some ⟨b14, 0, none⟩, 2⟩, ⟨some ⟨b18, 0, none⟩, 3⟩⟩, ⟨⟨some ⟨b19, 0, none⟩, 2⟩, ⟨some ⟨b20, 0, none⟩, 2⟩, ⟨some ⟨b23, 0, none⟩, 2⟩⟩, ⟨⟨some ⟨b24, 0, none⟩, 2⟩, ⟨some ⟨b25, 0, none⟩, 2⟩, ⟨some ⟨b28, 0, none⟩, 2⟩⟩, ⟨⟨some ⟨b29, 0, none⟩, 2⟩, ⟨some ⟨b30, 0, none⟩, 2⟩, ⟨some ⟨b33, 0, none⟩, 2⟩⟩, ⟨⟨some ⟨b34, 0, none⟩, 2⟩, ⟨some ⟨b35, 0, none⟩, 2⟩, ⟨some ⟨b38, 0, none⟩, 2⟩⟩, ⟨⟨some ⟨b39, 0, none⟩, 2⟩, ⟨some ⟨b40, 0, none⟩, 2⟩, ⟨some ⟨b43, 0, none⟩, 2⟩⟩⟩, ⟨some ⟨b49, 0, none⟩, 1⟩, rfl, ⟨⟨(own_new (enc := fun x => [.int .i64 x]) (nn := 1) (bb := 8) (hb := by decide) (hl := fun _ => rfl) [1000, 2000] hS (i := 44) rfl rfl (Nat.le_of_ble_eq_true rfl)), (own_new (enc := fun x => [.int .i64 x]) (nn := 1) (bb := 8) (hb := by decide) (hl := fun _ => rfl) [0, 40] hS (i := 43) rfl rfl (Nat.le_of_ble_eq_true rfl)), (sl_rows (ys := [((⟨some ⟨b5, 0, none⟩, 2⟩ : SV), [400, 500]), ((⟨some ⟨b6, 0, none⟩, 2⟩ : SV), [900, 1100])]) (own_new (enc := eRow) (nn := 1) (bb := 24) (hb := by decide) (hl := fun _ => rfl) [((⟨some ⟨b5, 0, none⟩, 2⟩ : SV), [400, 500]), ((⟨some ⟨b6, 0, none⟩, 2⟩ : SV), [900, 1100])] hS (i := 40) rfl rfl (Nat.le_of_ble_eq_true rfl)) (by intro y hy; simp only [List.mem_cons, List.not_mem_nil, or_false] at hy; rcases hy with rfl | rfl <;> first | exact (own_new (enc := fun x => [.int .i64 x]) (nn := 1) (bb := 8) (hb := by decide) (hl := fun _ => rfl) [400, 500] hS (i := 42) rfl rfl (Nat.le_of_ble_eq_true rfl)) | exact (own_new (enc := fun x => [.int .i64 x]) (nn := 1) (bb := 8) (hb := by decide) (hl := fun _ => rfl) [900, 1100] hS (i := 41) rfl rfl (Nat.le_of_ble_eq_true rfl))))⟩,
       ⟨(own_new (enc := fun x => [.int .i64 x]) (nn := 1) (bb := 8) (hb := by decide) (hl := fun _ => rfl) [0, 20] hS (i := 39) rfl rfl (Nat.le_of_ble_eq_true rfl)), (own_new (enc := fun x => [.int .i64 x]) (nn := 1) (bb := 8) (hb := by decide) (hl := fun _ => rfl) [0, 30] hS (i := 38) rfl rfl (Nat.le_of_ble_eq_true rfl)), (sl_rows (ys := [((⟨some ⟨b10, 0, none⟩, 2⟩ : SV), [70, 80]), ((⟨some ⟨b11, 0, none⟩, 2⟩ : SV), [100, 100])]) (own_new (enc := eRow) (nn := 1) (bb := 24) (hb := by decide) (hl := fun _ => rfl) [((⟨some ⟨b10, 0, none⟩, 2⟩ : SV), [70, 80]), ((⟨some ⟨b11, 0, none⟩, 2⟩ : SV), [100, 100])] hS (i := 35) rfl rfl (Nat.le_of_ble_eq_true rfl)) (by intro y hy; simp only [List.mem_cons, List.not_mem_nil, or_false] at hy; rcases hy with rfl | rfl <;> first | exact (own_new (enc := fun x => [.int .i64 x]) (nn := 1) (bb := 8) (hb := by decide) (hl := fun _ => rfl) [70, 80] hS (i := 37) rfl rfl (Nat.le_of_ble_eq_true rfl)) | exact (own_new (enc := fun x => [.int .i64 x]) (nn := 1) (bb := 8) (hb := by decide) (hl := fun _ => rfl) [100, 100] hS (i := 36) rfl rfl (Nat.le_of_ble_eq_true rfl))))⟩,
       ⟨(own_new (enc := fun x => [.int .i64 x]) (nn := 1) (bb := 8) (hb := by decide) (hl := fun _ => rfl) [0, 50, 100] hS (i := 34) rfl rfl (Nat.le_of_ble_eq_true rfl)), (own_new (enc := fun x => [.int .i64 x]) (nn := 1) (bb := 8) (hb := by decide) (hl := fun _ => rfl) [1000, 2000] hS (i := 33) rfl rfl (Nat.le_of_ble_eq_true rfl)), (sl_rows (ys := [((⟨some ⟨b15, 0, none⟩, 2⟩ : SV), [400, 900]), ((⟨some ⟨b16, 0, none⟩, 2⟩ : SV), [250, 500]), ((⟨some ⟨b17, 0, none⟩, 2⟩ : SV), [500, 800])]) (own_new (enc := eRow) (nn := 1) (bb := 24) (hb := by decide) (hl := fun _ => rfl) [((⟨some ⟨b15, 0, none⟩, 2⟩ : SV), [400, 900]), ((⟨some ⟨b16, 0, none⟩, 2⟩ : SV), [250, 500]), ((⟨some ⟨b17, 0, none⟩, 2⟩ : SV), [500, 800])] hS (i := 29) rfl rfl (Nat.le_of_ble_eq_true rfl)) (by intro y hy; simp only [List.mem_cons, List.not_mem_nil, or_false] at hy; rcases hy with rfl | rfl | rfl <;> first | exact (own_new (enc := fun x => [.int .i64 x]) (nn := 1) (bb := 8) (hb := by decide) (hl := fun _ => rfl) [400, 900] hS (i := 32) rfl rfl (Nat.le_of_ble_eq_true rfl)) | exact (own_new (enc := fun x => [.int .i64 x]) (nn := 1) (bb := 8) (hb := by decide) (hl := fun _ => rfl) [250, 500] hS (i := 31) rfl rfl (Nat.le_of_ble_eq_true rfl)) | exact (own_new (enc := fun x => [.int .i64 x]) (nn := 1) (bb := 8) (hb := by decide) (hl := fun _ => rfl) [500, 800] hS (i := 30) rfl rfl (Nat.le_of_ble_eq_true rfl))))⟩,
       ⟨(own_new (enc := fun x => [.int .i64 x]) (nn := 1) (bb := 8) (hb := by decide) (hl := fun _ => rfl) [0, 40] hS (i := 28) rfl rfl (Nat.le_of_ble_eq_true rfl)), (own_new (enc := fun x => [.int .i64 x]) (nn := 1) (bb := 8) (hb := by decide) (hl := fun _ => rfl) [0, 1000] hS (i := 27) rfl rfl (Nat.le_of_ble_eq_true rfl)), (sl_rows (ys := [((⟨some ⟨b21, 0, none⟩, 2⟩ : SV), [1200, 1000]), ((⟨some ⟨b22, 0, none⟩, 2⟩ : SV), [1000, 800])]) (own_new (enc := eRow) (nn := 1) (bb := 24) (hb := by decide) (hl := fun _ => rfl) [((⟨some ⟨b21, 0, none⟩, 2⟩ : SV), [1200, 1000]), ((⟨some ⟨b22, 0, none⟩, 2⟩ : SV), [1000, 800])] hS (i := 24) rfl rfl (Nat.le_of_ble_eq_true rfl)) (by intro y hy; simp only [List.mem_cons, List.not_mem_nil, or_false] at hy; rcases hy with rfl | rfl <;> first | exact (own_new (enc := fun x => [.int .i64 x]) (nn := 1) (bb := 8) (hb := by decide) (hl := fun _ => rfl) [1200, 1000] hS (i := 26) rfl rfl (Nat.le_of_ble_eq_true rfl)) | exact (own_new (enc := fun x => [.int .i64 x]) (nn := 1) (bb := 8) (hb := by decide) (hl := fun _ => rfl) [1000, 800] hS (i := 25) rfl rfl (Nat.le_of_ble_eq_true rfl))))⟩,
       ⟨(own_new (enc := fun x => [.int .i64 x]) (nn := 1) (bb := 8) (hb := by decide) (hl := fun _ => rfl) [1000, 2000] hS (i := 23) rfl rfl (Nat.le_of_ble_eq_true rfl)), (own_new (enc := fun x => [.int .i64 x]) (nn := 1) (bb := 8) (hb := by decide) (hl := fun _ => rfl) [0, 40] hS (i := 22) rfl rfl (Nat.le_of_ble_eq_true rfl)), (sl_rows (ys := [((⟨some ⟨b26, 0, none⟩, 2⟩ : SV), [120, 110]), ((⟨some ⟨b27, 0, none⟩, 2⟩ : SV), [100, 90])]) (own_new (enc := eRow) (nn := 1) (bb := 24) (hb := by decide) (hl := fun _ => rfl) [((⟨some ⟨b26, 0, none⟩, 2⟩ : SV), [120, 110]), ((⟨some ⟨b27, 0, none⟩, 2⟩ : SV), [100, 90])] hS (i := 19) rfl rfl (Nat.le_of_ble_eq_true rfl)) (by intro y hy; simp only [List.mem_cons, List.not_mem_nil, or_false] at hy; rcases hy with rfl | rfl <;> first | exact (own_new (enc := fun x => [.int .i64 x]) (nn := 1) (bb := 8) (hb := by decide) (hl := fun _ => rfl) [120, 110] hS (i := 21) rfl rfl (Nat.le_of_ble_eq_true rfl)) | exact (own_new (enc := fun x => [.int .i64 x]) (nn := 1) (bb := 8) (hb := by decide) (hl := fun _ => rfl) [100, 90] hS (i := 20) rfl rfl (Nat.le_of_ble_eq_true rfl))))⟩,
       ⟨(own_new (enc := fun x => [.int .i64 x]) (nn := 1) (bb := 8) (hb := by decide) (hl := fun _ => rfl) [0, 30] hS (i := 18) rfl rfl (Nat.le_of_ble_eq_true rfl)), (own_new (enc := fun x => [.int .i64 x]) (nn := 1) (bb := 8) (hb := by decide) (hl := fun _ => rfl) [1000, 2000] hS (i := 17) rfl rfl (Nat.le_of_ble_eq_true rfl)), (sl_rows (ys := [((⟨some ⟨b31, 0, none⟩, 2⟩ : SV), [5, 6]), ((⟨some ⟨b32, 0, none⟩, 2⟩ : SV), [12, 14])]) (own_new (enc := eRow) (nn := 1) (bb := 24) (hb := by decide) (hl := fun _ => rfl) [((⟨some ⟨b31, 0, none⟩, 2⟩ : SV), [5, 6]), ((⟨some ⟨b32, 0, none⟩, 2⟩ : SV), [12, 14])] hS (i := 14) rfl rfl (Nat.le_of_ble_eq_true rfl)) (by intro y hy; simp only [List.mem_cons, List.not_mem_nil, or_false] at hy; rcases hy with rfl | rfl <;> first | exact (own_new (enc := fun x => [.int .i64 x]) (nn := 1) (bb := 8) (hb := by decide) (hl := fun _ => rfl) [5, 6] hS (i := 16) rfl rfl (Nat.le_of_ble_eq_true rfl)) | exact (own_new (enc := fun x => [.int .i64 x]) (nn := 1) (bb := 8) (hb := by decide) (hl := fun _ => rfl) [12, 14] hS (i := 15) rfl rfl (Nat.le_of_ble_eq_true rfl))))⟩,
       ⟨(own_new (enc := fun x => [.int .i64 x]) (nn := 1) (bb := 8) (hb := by decide) (hl := fun _ => rfl) [0, 30] hS (i := 13) rfl rfl (Nat.le_of_ble_eq_true rfl)), (own_new (enc := fun x => [.int .i64 x]) (nn := 1) (bb := 8) (hb := by decide) (hl := fun _ => rfl) [1000, 2000] hS (i := 12) rfl rfl (Nat.le_of_ble_eq_true rfl)), (sl_rows (ys := [((⟨some ⟨b36, 0, none⟩, 2⟩ : SV), [15, 18]), ((⟨some ⟨b37, 0, none⟩, 2⟩ : SV), [12, 14])]) (own_new (enc := eRow) (nn := 1) (bb := 24) (hb := by decide) (hl := fun _ => rfl) [((⟨some ⟨b36, 0, none⟩, 2⟩ : SV), [15, 18]), ((⟨some ⟨b37, 0, none⟩, 2⟩ : SV), [12, 14])] hS (i := 9) rfl rfl (Nat.le_of_ble_eq_true rfl)) (by intro y hy; simp only [List.mem_cons, List.not_mem_nil, or_false] at hy; rcases hy with rfl | rfl <;> first | exact (own_new (enc := fun x => [.int .i64 x]) (nn := 1) (bb := 8) (hb := by decide) (hl := fun _ => rfl) [15, 18] hS (i := 11) rfl rfl (Nat.le_of_ble_eq_true rfl)) | exact (own_new (enc := fun x => [.int .i64 x]) (nn := 1) (bb := 8) (hb := by decide) (hl := fun _ => rfl) [12, 14] hS (i := 10) rfl rfl (Nat.le_of_ble_eq_true rfl))))⟩,
       ⟨(own_new (enc := fun x => [.int .i64 x]) (nn := 1) (bb := 8) (hb := by decide) (hl := fun _ => rfl) [30, 90] hS (i := 8) rfl rfl (Nat.le_of_ble_eq_true rfl)), (own_new (enc := fun x => [.int .i64 x]) (nn := 1) (bb := 8) (hb := by decide) (hl := fun _ => rfl) [1000, 2000] hS (i := 7) rfl rfl (Nat.le_of_ble_eq_true rfl)), (sl_rows (ys := [((⟨some ⟨b41, 0, none⟩, 2⟩ : SV), [20, 24]), ((⟨some ⟨b42, 0, none⟩, 2⟩ : SV), [16, 20])]) (own_new (enc := eRow) (nn := 1) (bb := 24) (hb := by decide) (hl := fun _ => rfl) [((⟨some ⟨b41, 0, none⟩, 2⟩ : SV), [20, 24]), ((⟨some ⟨b42, 0, none⟩, 2⟩ : SV), [16, 20])] hS (i := 4) rfl rfl (Nat.le_of_ble_eq_true rfl)) (by intro y hy; simp only [List.mem_cons, List.not_mem_nil, or_false] at hy; rcases hy with rfl | rfl <;> first | exact (own_new (enc := fun x => [.int .i64 x]) (nn := 1) (bb := 8) (hb := by decide) (hl := fun _ => rfl) [20, 24] hS (i := 6) rfl rfl (Nat.le_of_ble_eq_true rfl)) | exact (own_new (enc := fun x => [.int .i64 x]) (nn := 1) (bb := 8) (hb := by decide) (hl := fun _ => rfl) [16, 20] hS (i := 5) rfl rfl (Nat.le_of_ble_eq_true rfl))))⟩⟩, (own_new (enc := hindC) (nn := 2) (bb := 16) (hb := by decide) (hl := fun _ => rfl) [⟨6, 2⟩] hS (i := 0) rfl rfl (Nat.le_of_ble_eq_true rfl))⟩
end Go.Proofs.YtdnodlgebpnfoaaGreat
namespace Go.Proofs.YtdnodlgebpnfoaaGreat
open Go Go.RowKit Go.Shelf Sw
open Sw
theorem ex3_rF : ratesOf exRot exCr exA3 false 4 = [4, 5, 7, 5] := by decide +kernel
theorem ex3_rT : ratesOf exRot exCr exA3 true 4 = [-1, 0, 1, 0] := by decide +kernel
theorem ex3_wk : wakesOf exRot exCr exA3 4 = [[false, true, false], [false, true, false], [false, false, false], [false, false, false]] := by decide +kernel
theorem ex3_air : airE exRot exCr exA3 = 0 := by decide +kernel
theorem ex3_all : allE exRot exCr exA3 exFld = 0 := by decide +kernel
def exS : Site := ⟨exCr, exFld, [4, 5, 7, 5], [-1, 0, 1, 0], [[false, true, false], [false, true, false], [false, false, false], [false, false, false]]⟩
theorem ex3_site : siteOf exRot exCr exA3 exFld = exS := by
  unfold siteOf
  rw [show exCr.top.toNat + 1 = 4 from rfl, ex3_rF, ex3_rT, ex3_wk]; rfl
theorem ex3_way : wayP (stepsL exS false) (awayP exS) (Cov exS) orig = some [⟨1, 1, 1⟩, ⟨3, 2, 3⟩] := by decide +kernel
theorem ex3_departW : departW exRot exCr exA3 exFld = some [⟨1, 1, 1⟩, ⟨3, 2, 3⟩] := by
  unfold departW; rw [if_pos ex3_all, ex3_site, ex3_way]
theorem ex3_departL : departL exRot exCr exA3 exFld = [⟨1, 1, 1⟩, ⟨3, 2, 3⟩] := by unfold departL; rw [ex3_departW]; rfl
theorem ex3_departE : departE exRot exCr exA3 exFld = 0 := by unfold departE; rw [if_pos ex3_all, ex3_departW]; rfl
theorem ex3_rates : ratesV exRot exCr exA3 true = [-1, 0, 1, 0] := by unfold ratesV; rw [if_pos ex3_air]; exact ex3_rT
end Go.Proofs.YtdnodlgebpnfoaaGreat
namespace Go.Proofs.YtdnodlgebpnfoaaGreat
open Go Go.RowKit Go.Shelf Sw
set_option maxHeartbeats 8000000 in
set_option maxRecDepth 100000 in
theorem law03_works   {w : World}   : Ret Tryz.prog 46 [] w (fun v _ => v = .bool true) := by
 refine ret_start (n := 44) Tryz.func46 rfl rfl rfl (fun a hS => ?_)
 refine wpIn_seq ?_
 refine wpIn_region_lit ?_
 refine st_v hS rfl rfl (run_assign hS rfl) fun a hS => wl_nil ?_
 refine wpIn_seq ?_
 refine wpIn_region_lit ?_
 have hw0 := hS.below.size
 refine st_call law03_Example Tryz.call124 hS rfl rfl rfl fun v W a hR hB hlt hS => ?_
 obtain ⟨V0, sf0, rfl, hV0, hsf0⟩ := hR
 have hS := (hS.moreRot hw0 hlt hV0).moreSl hlt hsf0
 refine st_v hS rfl rfl (run_move hS rfl) fun a hS => st_v hS rfl rfl (run_extract hS rfl rfl) fun a hS => st_v hS rfl rfl (run_extract hS rfl rfl) fun a hS => st_v hS rfl rfl (run_extract hS rfl rfl) fun a hS => st_alloc_agg Tryz.zeroValue29 hS rfl rfl fun W a b0 hS => st_alloc_agg Tryz.zeroValue33 hS rfl rfl fun W a b1 hS => st_alloc_agg Tryz.zeroValue36 hS rfl rfl fun W a b2 hS => st_store (cs' := [.slice V0.hover.x.a exRot.hover.X.length V0.hover.x.c, .slice V0.hover.y.a exRot.hover.Y.length V0.hover.y.c, .slice V0.hover.v.a exRot.hover.V.length V0.hover.v.c, .slice V0.ground.x.a exRot.ground.X.length V0.ground.x.c, .slice V0.ground.y.a exRot.ground.Y.length V0.ground.y.c, .slice V0.ground.v.a exRot.ground.V.length V0.ground.v.c, .slice V0.level.x.a exRot.level.X.length V0.level.x.c, .slice V0.level.y.a exRot.level.Y.length V0.level.y.c, .slice V0.level.v.a exRot.level.V.length V0.level.v.c, .slice V0.power.x.a exRot.power.X.length V0.power.x.c, .slice V0.power.y.a exRot.power.Y.length V0.power.y.c, .slice V0.power.v.a exRot.power.V.length V0.power.v.c, .slice V0.never.x.a exRot.never.X.length V0.never.x.c, .slice V0.never.y.a exRot.never.Y.length V0.never.y.c, .slice V0.never.v.a exRot.never.V.length V0.never.v.c, .slice V0.low.x.a exRot.low.X.length V0.low.x.c, .slice V0.low.y.a exRot.low.Y.length V0.low.y.c, .slice V0.low.v.a exRot.low.V.length V0.low.v.c, .slice V0.high.x.a exRot.high.X.length V0.high.x.c, .slice V0.high.y.a exRot.high.Y.length V0.high.y.c, .slice V0.high.v.a exRot.high.V.length V0.high.v.c, .slice V0.glide.x.a exRot.glide.X.length V0.glide.x.c, .slice V0.glide.y.a exRot.glide.Y.length V0.glide.y.c, .slice V0.glide.v.a exRot.glide.V.length V0.glide.v.c, .int .i64 exRot.climb, .int .i64 exRot.burn, .int .i64 exCr.one, .int .i64 exCr.unit, .int .i64 exCr.step, .int .i64 exCr.top, .int .i64 exCr.drop, .int .i64 exCr.touch, .int .i64 exCr.sink]) (i := 2) Tryz.sizeOf29 hS rfl rfl rfl rfl rfl rfl rfl rfl rfl fun W a hS => st_store (cs' := [.int .i64 exA3.weight.lo, .int .i64 exA3.weight.hi, .int .i64 exA3.temp.lo, .int .i64 exA3.temp.hi, .int .i64 exA3.height.lo, .int .i64 exA3.height.hi, .int .i64 exA3.wind.lo, .int .i64 exA3.wind.hi]) (i := 1) Tryz.sizeOf33 hS rfl rfl rfl rfl rfl rfl rfl rfl rfl fun W a hS => st_store (i := 0) Tryz.sizeOf36 hS rfl rfl rfl rfl rfl rfl rfl rfl rfl fun W a hS => wl_nil ?_
 try dsimp only [setB] at hS
 refine wpIn_seq ?_
 refine wpIn_region_lit ?_
 refine st_v hS rfl rfl (run_load_all (i := 2) Tryz.isAgg29 Tryz.sizeOf29 hS rfl rfl rfl) fun a hS => st_v hS rfl rfl (run_load_all (i := 1) Tryz.isAgg33 Tryz.sizeOf33 hS rfl rfl rfl) fun a hS => st_call (engine_Rates V0 exRot exCr exA3 ((fun _ h => h) _ hS.now.1.2)) Tryz.call30 hS rfl rfl rfl fun v W a hR hB hlt hS => ?_
 obtain ⟨s0, rfl, hs0⟩ := hR
 have hS := hS.moreSl hlt hs0
 refine st_v hS rfl rfl (run_move hS rfl) fun a hS => st_v hS rfl rfl (run_extract hS rfl rfl) fun a hS => st_v hS rfl rfl (run_extract hS rfl rfl) fun a hS => st_v hS rfl rfl (run_assign hS rfl) fun a hS => st_v hS rfl rfl (run_assign hS rfl) fun a hS => wl_nil ?_
 refine wpIn_seq ?_
 refine wpIn_region_lit ?_
 refine st_v hS rfl rfl (run_load_all (i := 2) Tryz.isAgg29 Tryz.sizeOf29 hS rfl rfl rfl) fun a hS => st_v hS rfl rfl (run_load_all (i := 1) Tryz.isAgg33 Tryz.sizeOf33 hS rfl rfl rfl) fun a hS => st_v hS rfl rfl (run_load_all (i := 0) Tryz.isAgg36 Tryz.sizeOf36 hS rfl rfl rfl) fun a hS => st_call (engine_Depart V0 exRot exCr exA3 sf0 exFld ((fun _ h => h) _ hS.now.1.1.2) ((fun _ h => h) _ hS.now.1.2)) Tryz.call50 hS rfl rfl rfl fun v W a hR hB hlt hS => ?_
 obtain ⟨s1, rfl, hs1⟩ := hR
 have hS := hS.moreSl hlt hs1
 refine st_v hS rfl rfl (run_move hS rfl) fun a hS => st_v hS rfl rfl (run_extract hS rfl rfl) fun a hS => st_v hS rfl rfl (run_extract hS rfl rfl) fun a hS => st_v hS rfl rfl (run_assign hS rfl) fun a hS => st_v hS rfl rfl (run_assign hS rfl) fun a hS => wl_nil ?_
 refine wpIn_seq ?_
 refine wpIn_region_lit ?_
 refine st_v hS rfl rfl (run_move hS rfl) fun a hS => st_v hS rfl rfl (run_bin hS rfl rfl rfl) fun a hS => st_v hS rfl rfl (run_move hS rfl) fun a hS => ?_
 refine st_split (d := 28) hS rfl (fun hc1 hS => ?_) (fun hc1 hS => ?_)
 ·
  try simp only [ty] at hc1
  refine st_v hS (hS.wanted rfl rfl rfl) rfl (run_move hS rfl) fun a hS => st_v hS (hS.wanted rfl rfl rfl) rfl (run_bin hS rfl rfl rfl) fun a hS => st_v hS rfl rfl (run_pick_t hS rfl rfl) fun a hS => st_v hS rfl rfl (run_move hS rfl) fun a hS => ?_
  refine st_split (d := 32) hS rfl (fun hc2 hS => ?_) (fun hc2 hS => ?_)
  ·
   try simp only [ty] at hc2
   refine st_v hS (hS.wanted rfl rfl rfl) rfl (run_move hS rfl) fun a hS => st_buildSlice (pv := [(0, .int .i64 _), (1, .int .i64 _), (2, .int .i64 _), (3, .int .i64 _)]) (fun W => bs22_4_0_1_2_3 _ _ _ _ W) hS (hS.wanted rfl rfl rfl) rfl rfl fun W a b3 hS => st_call (law03_sameInts s0 (ratesV exRot exCr exA3 true) (⟨some ⟨b3, 0, none⟩, 4⟩ : SV) [(-1), 0, 1, 0] ((fun _ h => h) _ hS.now.1.2) (own_sl_of (dk := kInt) (enc := eInt) (xs := [(-1), 0, 1, 0]) (fun _ _ _ => rfl) hS (i := 0) rfl (Nat.le_of_ble_eq_true rfl))) Tryz.call45 hS (hS.wanted rfl rfl rfl) rfl rfl fun v W a hR hB hlt hS => ?_
   subst hR
   refine st_v hS rfl rfl (run_pick_t hS rfl rfl) fun a hS => st_v hS rfl rfl (run_move hS rfl) fun a hS => ?_
   refine st_split (d := 37) hS rfl (fun hc3 hS => ?_) (fun hc3 hS => ?_)
   ·
    try simp only [ty] at hc3
    refine st_v hS (hS.wanted rfl rfl rfl) rfl (run_move hS rfl) fun a hS => st_v hS (hS.wanted rfl rfl rfl) rfl (run_build (pv := [(0, .int .i64 _), (1, .int .i64 _), (2, .int .i64 _)]) (fun W => bd38_0_1_2 _ _ _ W) hS rfl) fun a hS => st_v hS (hS.wanted rfl rfl rfl) rfl (run_build (pv := [(0, .int .i64 _), (1, .int .i64 _), (2, .int .i64 _)]) (fun W => bd38_0_1_2 _ _ _ W) hS rfl) fun a hS => st_buildSlice (pv := [(0, .agg #[.int .i64 _, .int .i64 _, .int .i64 _]), (1, .agg #[.int .i64 _, .int .i64 _, .int .i64 _])]) (fun W => bs45_2_0_1 _ _ _ _ _ _ W) hS (hS.wanted rfl rfl rfl) rfl rfl fun W a b4 hS => st_call (law03_samePoses s1 (departL exRot exCr exA3 exFld) (⟨some ⟨b4, 0, none⟩, 2⟩ : SV) [(⟨1, 1, 1⟩ : Pose), (⟨3, 2, 3⟩ : Pose)] ((fun _ h => h) _ hS.now.2) (own_sl_of (dk := kPose) (enc := poseC) (xs := [(⟨1, 1, 1⟩ : Pose), (⟨3, 2, 3⟩ : Pose)]) (fun _ _ _ => rfl) hS (i := 0) rfl (Nat.le_of_ble_eq_true rfl))) Tryz.call49 hS (hS.wanted rfl rfl rfl) rfl rfl fun v W a hR hB hlt hS => ?_
    subst hR
    refine st_v hS rfl rfl (run_pick_t hS rfl rfl) fun a hS => st_v hS rfl rfl (run_assign hS rfl) fun a hS => wl_nil ?_
    have hS := hS.sub (κ' := [(0, _), (1, _), (2, _), (3, _), (4, _), (5, _), (6, _), (7, _)]) (Sub.cons rfl (Sub.cons rfl (Sub.cons rfl (Sub.cons rfl (Sub.cons rfl (Sub.cons rfl (Sub.cons rfl (Sub.cons rfl Sub.nil))))))))
    refine wpIn_ret ?_
    repeat (first | refine q_ret ?_ | refine q_block_ret ?_)
    refine hS.done (res1 (fn := Tryz.f46) (r1 := .tmp 0) rfl (rv_tmp hS rfl)) ?_
    rw [ex3_departL]; rfl
   ·
    try simp only [ty] at hc3
    exact absurd ex3_rates hc3
  ·
   try simp only [ty] at hc2
   exact absurd ex3_departE hc2
 ·
  try simp only [ty] at hc1
  exact absurd ex3_air hc1
set_option maxHeartbeats 8000000 in
set_option maxRecDepth 100000 in
theorem law03_EngineRates (Vr : RV) (r : Rot) (c : Cr) (A : Air) (sf : SV) (f : Fld) {w : World} {Fr : Nat → Prop} (hr : RotR Fr w Vr r) {Ff : Nat → Prop} (hf : Sl kHind Ff w sf f.hinds) : Ret Tryz.prog 6 [.agg (craftC Vr r c).toArray, .agg (airC A).toArray, .agg (fldC sf f).toArray] w (fun v _ => v = .bool true) := by
 refine ret_start (n := 49) Tryz.func6 rfl rfl rfl (fun a hS => ?_)
 have Hr : ∀ W, Below w.heap.size w W → RotR Fr W Vr r := fun W hb => hr.move (keep_of hb)
 have Hf : ∀ W, Below w.heap.size w W → Sl kHind Ff W sf f.hinds := fun W hb => hf.at_ hb
 have hmf := hf.len
 refine wpIn_seq ?_
 refine wpIn_region_lit ?_
 refine st_box_agg hS rfl rfl rfl fun W a b0 hS => st_box_agg hS rfl rfl rfl fun W a b1 hS => st_box_agg hS rfl rfl rfl fun W a b2 hS => st_v hS rfl rfl (run_assign hS rfl) fun a hS => wl_nil ?_
 refine wpIn_seq ?_
 refine wpIn_seq ?_
 refine st_draw (by kernel_rfl) (by kernel_rfl) hS ?_
 refine qt_v hS rfl rfl (fun W hB hS => run_load_all (i := 2) Tryz.isAgg29 Tryz.sizeOf29 hS rfl rfl rfl) fun a hS => qt_v hS rfl rfl (fun W hB hS => run_load_all (i := 0) Tryz.isAgg36 Tryz.sizeOf36 hS rfl rfl rfl) fun a hS => qt_call hS rfl rfl Tryz.call42 rfl (fun W hB hS => engine_Check Vr r c sf f (Hr _ hS.below) (Hf _ hS.below)) fun a hS => qt_v hS rfl rfl (fun W hB hS => run_load_all (i := 2) Tryz.isAgg29 Tryz.sizeOf29 hS rfl rfl rfl) fun a hS => qt_v hS rfl rfl (fun W hB hS => run_load_all (i := 0) Tryz.isAgg36 Tryz.sizeOf36 hS rfl rfl rfl) fun a hS => qt_call hS rfl rfl Tryz.call43 rfl (fun W hB hS => ref03_Check Vr r c sf f (Hr _ hS.below) (Hf _ hS.below)) fun a hS => qt_v hS rfl rfl (fun W hB hS => run_bin hS rfl rfl rfl) fun a hS => qt_nil hS fun W hS => ?_
 refine st_cond hS rfl (fun hc1 => ?_) (fun hc1 => ?_)
 ·
  try simp only [ty] at hc1
  exact hc1.elim trivial
 ·
  try simp only [ty] at hc1
  refine wpIn_skip ?_
  refine wpIn_seq ?_
  refine wpIn_seq ?_
  refine wpIn_region_lit ?_
  refine st_v hS rfl rfl (run_assign hS rfl) fun a hS => wl_nil ?_
  refine wpIn_block ?_
  refine wpIn_loop_rounds 3 ?_
  rw [roundsIn_succ]
  refine wpIn_seq ?_
  refine wpIn_seq ?_
  refine wpIn_region_lit ?_
  refine st_v hS rfl rfl (run_move hS rfl) fun a hS => st_v hS rfl rfl (run_bin hS rfl rfl rfl) fun a hS => wl_nil ?_
  refine st_cond hS rfl (fun hc2 => ?_) (fun hc2 => ?_)
  ·
   try simp only [ty] at hc2
   refine wpIn_skip ?_
   refine wpIn_seq ?_
   refine wpIn_block ?_
   refine wpIn_seq ?_
   refine wpIn_region_lit ?_
   refine st_v hS rfl rfl (run_load_all (i := 2) Tryz.isAgg29 Tryz.sizeOf29 hS rfl rfl rfl) fun a hS => st_v hS rfl rfl (run_load_all (i := 1) Tryz.isAgg33 Tryz.sizeOf33 hS rfl rfl rfl) fun a hS => st_v hS rfl rfl (run_move hS rfl) fun a hS => st_v hS rfl rfl (run_bin hS rfl rfl rfl) fun a hS => st_call (engine_Rates Vr r c A (Hr _ hS.below)) Tryz.call30 hS rfl rfl rfl fun v W a hR hB hlt hS => ?_
   obtain ⟨s0, rfl, hs0⟩ := hR
   have hS := hS.moreSl hlt hs0
   refine st_v hS rfl rfl (run_move hS rfl) fun a hS => st_v hS rfl rfl (run_extract hS rfl rfl) fun a hS => st_v hS rfl rfl (run_extract hS rfl rfl) fun a hS => st_v hS rfl rfl (run_assign hS rfl) fun a hS => st_v hS rfl rfl (run_assign hS rfl) fun a hS => wl_nil ?_
   refine wpIn_seq ?_
   refine wpIn_region_lit ?_
   refine st_v hS rfl rfl (run_load_all (i := 2) Tryz.isAgg29 Tryz.sizeOf29 hS rfl rfl rfl) fun a hS => st_v hS rfl rfl (run_load_all (i := 1) Tryz.isAgg33 Tryz.sizeOf33 hS rfl rfl rfl) fun a hS => st_v hS rfl rfl (run_move hS rfl) fun a hS => st_v hS rfl rfl (run_bin hS rfl rfl rfl) fun a hS => st_call (ref03_Rates Vr r c A (Hr _ hS.below)) Tryz.call44 hS rfl rfl rfl fun v W a hR hB hlt hS => ?_
   obtain ⟨s1, rfl, hs1⟩ := hR
   have hS := hS.moreSl hlt hs1
   refine st_v hS rfl rfl (run_move hS rfl) fun a hS => st_v hS rfl rfl (run_extract hS rfl rfl) fun a hS => st_v hS rfl rfl (run_extract hS rfl rfl) fun a hS => st_v hS rfl rfl (run_assign hS rfl) fun a hS => st_v hS rfl rfl (run_assign hS rfl) fun a hS => wl_nil ?_
   have hS := hS.sub (κ' := [(0, _), (1, _), (2, _), (3, _), (4, _), (5, _), (6, _), (7, _), (8, _), (9, _), (10, _), (11, _)]) (Sub.cons rfl (Sub.cons rfl (Sub.cons rfl (Sub.cons rfl (Sub.cons rfl (Sub.cons rfl (Sub.cons rfl (Sub.cons rfl (Sub.cons rfl (Sub.cons rfl (Sub.cons rfl (Sub.cons rfl Sub.nil))))))))))))
   refine wpIn_seq ?_
   refine wpIn_region_lit ?_
   refine st_v hS rfl rfl (run_move hS rfl) fun a hS => st_v hS rfl rfl (run_move hS rfl) fun a hS => st_v hS rfl rfl (run_bin hS rfl rfl rfl) fun a hS => st_v hS rfl rfl (run_move hS rfl) fun a hS => ?_
   refine st_split (d := 42) hS rfl (fun hc3 hS => ?_) (fun hc3 hS => ?_)
   ·
    try simp only [ty] at hc3
    exact hc3.elim trivial
   ·
    try simp only [ty] at hc3
    refine st_v hS (hS.wanted rfl rfl rfl) rfl (run_move hS rfl) fun a hS => st_v hS (hS.wanted rfl rfl rfl) rfl (run_move hS rfl) fun a hS => st_call (law03_sameInts s0 (ratesV r c A (0 == 1)) s1 (ratesV r c A (0 == 1)) ((fun _ h => h) _ hS.now.1.2) ((fun _ h => h) _ hS.now.2)) Tryz.call45 hS (hS.wanted rfl rfl rfl) rfl rfl fun v W a hR hB hlt hS => ?_
    subst hR
    refine st_v hS (hS.wanted rfl rfl rfl) rfl (run_not hS rfl) fun a hS => st_v hS rfl rfl (run_pick_f hS rfl rfl) fun a hS => wl_nil ?_
    refine st_cond hS rfl (fun hc4 => ?_) (fun hc4 => ?_)
    ·
     try simp only [ty] at hc4
     exact hc4.elim trivial
    ·
     try simp only [ty] at hc4
     refine wpIn_skip ?_
     refine wpIn_region_lit ?_
     refine st_v hS rfl rfl (run_move hS rfl) fun a hS => st_v hS rfl rfl (run_add (t := (1 : Int)) hS rfl rfl (by omega) (by omega) (by omega)) fun a hS => st_v hS rfl rfl (run_assign hS rfl) fun a hS => wl_nil ?_
     refine q_then ?_
     rw [roundsIn_succ]
     refine wpIn_seq ?_
     refine wpIn_seq ?_
     refine wpIn_region_lit ?_
     refine st_v hS rfl rfl (run_move hS rfl) fun a hS => st_v hS rfl rfl (run_bin hS rfl rfl rfl) fun a hS => wl_nil ?_
     refine st_cond hS rfl (fun hc5 => ?_) (fun hc5 => ?_)
     ·
      try simp only [ty] at hc5
      refine wpIn_skip ?_
      refine wpIn_seq ?_
      refine wpIn_block ?_
      refine wpIn_seq ?_
      refine wpIn_region_lit ?_
      refine st_v hS rfl rfl (run_load_all (i := 2) Tryz.isAgg29 Tryz.sizeOf29 hS rfl rfl rfl) fun a hS => st_v hS rfl rfl (run_load_all (i := 1) Tryz.isAgg33 Tryz.sizeOf33 hS rfl rfl rfl) fun a hS => st_v hS rfl rfl (run_move hS rfl) fun a hS => st_v hS rfl rfl (run_bin hS rfl rfl rfl) fun a hS => st_call (engine_Rates Vr r c A (Hr _ hS.below)) Tryz.call30 hS rfl rfl rfl fun v W a hR hB hlt hS => ?_
      obtain ⟨s2, rfl, hs2⟩ := hR
      have hS := hS.moreSl hlt hs2
      refine st_v hS rfl rfl (run_move hS rfl) fun a hS => st_v hS rfl rfl (run_extract hS rfl rfl) fun a hS => st_v hS rfl rfl (run_extract hS rfl rfl) fun a hS => st_v hS rfl rfl (run_assign hS rfl) fun a hS => st_v hS rfl rfl (run_assign hS rfl) fun a hS => wl_nil ?_
      refine wpIn_seq ?_
      refine wpIn_region_lit ?_
      refine st_v hS rfl rfl (run_load_all (i := 2) Tryz.isAgg29 Tryz.sizeOf29 hS rfl rfl rfl) fun a hS => st_v hS rfl rfl (run_load_all (i := 1) Tryz.isAgg33 Tryz.sizeOf33 hS rfl rfl rfl) fun a hS => st_v hS rfl rfl (run_move hS rfl) fun a hS => st_v hS rfl rfl (run_bin hS rfl rfl rfl) fun a hS => st_call (ref03_Rates Vr r c A (Hr _ hS.below)) Tryz.call44 hS rfl rfl rfl fun v W a hR hB hlt hS => ?_
      obtain ⟨s3, rfl, hs3⟩ := hR
      have hS := hS.moreSl hlt hs3
      refine st_v hS rfl rfl (run_move hS rfl) fun a hS => st_v hS rfl rfl (run_extract hS rfl rfl) fun a hS => st_v hS rfl rfl (run_extract hS rfl rfl) fun a hS => st_v hS rfl rfl (run_assign hS rfl) fun a hS => st_v hS rfl rfl (run_assign hS rfl) fun a hS => wl_nil ?_
      have hS := hS.sub (κ' := [(0, _), (1, _), (2, _), (3, _), (4, _), (5, _), (6, _), (7, _), (8, _), (9, _), (10, _), (11, _)]) (Sub.cons rfl (Sub.cons rfl (Sub.cons rfl (Sub.cons rfl (Sub.cons rfl (Sub.cons rfl (Sub.cons rfl (Sub.cons rfl (Sub.cons rfl (Sub.cons rfl (Sub.cons rfl (Sub.cons rfl Sub.nil))))))))))))
      refine wpIn_seq ?_
      refine wpIn_region_lit ?_
      refine st_v hS rfl rfl (run_move hS rfl) fun a hS => st_v hS rfl rfl (run_move hS rfl) fun a hS => st_v hS rfl rfl (run_bin hS rfl rfl rfl) fun a hS => st_v hS rfl rfl (run_move hS rfl) fun a hS => ?_
      refine st_split (d := 42) hS rfl (fun hc6 hS => ?_) (fun hc6 hS => ?_)
      ·
       try simp only [ty] at hc6
       exact hc6.elim trivial
      ·
       try simp only [ty] at hc6
       refine st_v hS (hS.wanted rfl rfl rfl) rfl (run_move hS rfl) fun a hS => st_v hS (hS.wanted rfl rfl rfl) rfl (run_move hS rfl) fun a hS => st_call (law03_sameInts s2 (ratesV r c A ((1 : Int) == 1)) s3 (ratesV r c A ((1 : Int) == 1)) ((fun _ h => h) _ hS.now.1.2) ((fun _ h => h) _ hS.now.2)) Tryz.call45 hS (hS.wanted rfl rfl rfl) rfl rfl fun v W a hR hB hlt hS => ?_
       subst hR
       refine st_v hS (hS.wanted rfl rfl rfl) rfl (run_not hS rfl) fun a hS => st_v hS rfl rfl (run_pick_f hS rfl rfl) fun a hS => wl_nil ?_
       refine st_cond hS rfl (fun hc7 => ?_) (fun hc7 => ?_)
       ·
        try simp only [ty] at hc7
        exact hc7.elim trivial
       ·
        try simp only [ty] at hc7
        refine wpIn_skip ?_
        refine wpIn_region_lit ?_
        refine st_v hS rfl rfl (run_move hS rfl) fun a hS => st_v hS rfl rfl (run_add (t := (2 : Int)) hS rfl rfl (by omega) (by omega) (by omega)) fun a hS => st_v hS rfl rfl (run_assign hS rfl) fun a hS => wl_nil ?_
        refine q_then ?_
        rw [roundsIn_succ]
        refine wpIn_seq ?_
        refine wpIn_seq ?_
        refine wpIn_region_lit ?_
        refine st_v hS rfl rfl (run_move hS rfl) fun a hS => st_v hS rfl rfl (run_bin hS rfl rfl rfl) fun a hS => wl_nil ?_
        refine st_cond hS rfl (fun hc8 => ?_) (fun hc8 => ?_)
        ·
         try simp only [ty] at hc8
         exfalso; omega
        ·
         try simp only [ty] at hc8
         refine wpIn_exit ?_
         refine wpIn_seq ?_
         refine wpIn_region_lit ?_
         refine st_call (law03_works) Tryz.call46 hS rfl rfl rfl fun v W a hR hB hlt hS => ?_
         subst hR
         refine st_v hS rfl rfl (run_assign hS rfl) fun a hS => wl_nil ?_
         refine wpIn_ret ?_
         repeat (first | refine q_ret ?_ | refine q_block_ret ?_)
         refine hS.done (res1 (fn := Tryz.f6) (r1 := .tmp 6) rfl (rv_tmp hS rfl)) ?_
         rfl
     ·
      try simp only [ty] at hc5
      exfalso; omega
  ·
   try simp only [ty] at hc2
   exfalso; omega
end Go.Proofs.YtdnodlgebpnfoaaGreat
namespace Go.Proofs.YtdnodlgebpnfoaaGreat
open Go Go.RowKit Go.Shelf Sw
section
variable {H : Type} {enc : TypeId × Value → H} {P : Program}
def Opens (enc : TypeId × Value → H) (P : Program) (t : TypeId) {α : Type} (dk : Kd α) : Prop :=
  ∀ (W : World) (fuel : Nat) (cs : List Value) (d : DataW H) (ps : List MemPlace), DataW.trod enc P W 0 (fun _ => true) true fuel t cs = some (d, ps) → (∀ n ∈ d.weights P t, n ≤ reachBytes) → ∃ x : α, dk.R (fun _ => True) W x cs
theorem opens_int {t : TypeId} (ht : P.underlying t = some (.int .i64)) : Opens enc P t kInt := fun W fuel cs d ps h _ => by
  obtain ⟨n, e, _⟩ := DataW.trod_int ht h
  exact ⟨n, e⟩
theorem weights_all {e : TypeId} : ∀ {ds : List (DataW H)} {j : Nat} {d : DataW H}, ds[j]? = some d → ∀ n ∈ d.weights P e, n ∈ DataW.weightsAll P e ds
  | d0 :: ds, 0, d, hd, n, hn => by
    simp only [List.getElem?_cons_zero, Option.some.injEq] at hd; subst hd
    simp only [DataW.weightsAll, List.mem_append]; exact .inl hn
  | d0 :: ds, j + 1, d, hd, n, hn => by
    simp only [List.getElem?_cons_succ] at hd
    simp only [DataW.weightsAll, List.mem_append]; exact .inr (weights_all hd n hn)
  | [], _, _, hd, _, _ => by simp at hd
theorem opens_slice {α : Type} [Inhabited α] {dk : Kd α} {t e : TypeId} (h0 : 0 < dk.sz) (ht : P.underlying t = some (.slice e)) (hc : P.cellsOf e = dk.sz) (hb : P.bytesOf e = dk.by_) (he : Opens enc P e dk) : Opens enc P t (kSl dk h0) := by
  intro W fuel cs d ps h hw
  rcases Go.Deep.open_slice ht h with ⟨rfl, _⟩ | ⟨a, len, cap, m, n, D, Pl, rfl, _, hl, hm, hmm, hx, hel⟩
  · exact ⟨[], ⟨none, 0⟩, rfl, Nat.le_refl _, by simp, fun j hj => by simp at hj⟩
  · simp only [if_true] at hmm
    subst hmm
    obtain ⟨rfl, _⟩ := Prod.mk.inj hx
    have hwt : (len + (m - len)) * dk.by_ ≤ reachBytes := by
      refine hw _ ?_
      simp only [DataW.weights, ht, hb, List.length_map, List.length_range, List.mem_cons, true_or]
    have hrb : reachBytes < 2 ^ 47 := reachBytes_lt
    have each : ∀ i, i < len → ∃ x : α, ∃ cs', dk.R (fun _ => True) W x cs' ∧ ∀ k u, cs'[k]? = some u → W.cell? (a.add (i * dk.sz + k)) = some u := by
      intro i hi
      obtain ⟨cs', h1, h2⟩ := hel i (by omega)
      obtain ⟨x, hx⟩ := he W n cs' (D i) (Pl i) h2 (fun q hq => hw q (by
        simp only [DataW.weights, ht, List.mem_cons, List.mem_append]
        exact .inr (.inl (weights_all (j := i) (by simp [hi]) q hq))))
      refine ⟨x, cs', hx, fun k u hk => ?_⟩
      obtain ⟨_, h3, h4⟩ := World.cells?_some h1
      have hkl := (List.getElem?_eq_some_iff.1 hk).1
      have := h4 k (by omega)
      rw [add_add, hc] at this
      rw [this, hk]
    obtain ⟨f, hf⟩ := Go.Deep.choose_lt each
    refine ⟨(List.range len).map f, ⟨some a, m⟩, by simp, by simpa using hl, ?_, fun j hj => ?_⟩
    · rw [List.length_map, List.length_range]
      have : len * dk.by_ ≤ (len + (m - len)) * dk.by_ := Nat.mul_le_mul_right _ (by omega)
      omega
    · have hj' : j < len := by simpa using hj
      obtain ⟨cs', h1, h2⟩ := hf j hj'
      refine ⟨a, cs', rfl, trivial, ?_, h2⟩
      rw [List.getElem_map, List.getElem_range]; exact h1
def consec (P : Program) : Nat → List Field → Bool
  | _, [] => true
  | o, f :: fs => Nat.beq f.offset o && consec P (o + P.cellsOf f.type) fs
def total (P : Program) : List Field → Nat
  | [] => 0
  | f :: fs => P.cellsOf f.type + total P fs
def FieldAt (enc : TypeId × Value → H) (P : Program) (W : World) (t : TypeId) (cs : List Value) : Prop := ∃ (fuel : Nat) (d : DataW H) (ps : List MemPlace), DataW.trod enc P W 0 (fun _ => true) true fuel t cs = some (d, ps) ∧ ∀ n ∈ d.weights P t, n ≤ reachBytes
theorem split_fields {W : World} {Q : Field → List Value → Prop} : ∀ (fs : List Field) (o : Nat) (cs : List Value), consec P o fs = true → cs.length = o + total P fs → (∀ f ∈ fs, Q f ((cs.drop f.offset).take (P.cellsOf f.type))) →
    ∃ css : List (List Value), css.length = fs.length ∧ cs.drop o = css.flatten ∧ ∀ (i : Nat) (f : Field) (c : List Value), fs[i]? = some f → css[i]? = some c → Q f c
  | [], o, cs, _, hl, _ => ⟨[], rfl, by simp only [total] at hl; simp; omega, fun i f c h => by simp at h⟩
  | f :: fs, o, cs, hc, hl, hq => by
    simp only [consec, Bool.and_eq_true] at hc
    have ho := Nat.eq_of_beq_eq_true hc.1
    simp only [total] at hl
    obtain ⟨css, h1, h2, h3⟩ := split_fields (W := W) fs (o + P.cellsOf f.type) cs hc.2 (by omega) (fun g hg => hq g (List.mem_cons_of_mem _ hg))
    refine ⟨(cs.drop o).take (P.cellsOf f.type) :: css, by simp [h1], ?_, fun i g c hi hci => ?_⟩
    · rw [List.flatten_cons, ← h2, ← List.drop_drop, List.take_append_drop]
    · cases i with
      | zero =>
        simp only [List.getElem?_cons_zero, Option.some.injEq] at hi hci
        subst hi; subst hci
        have := hq f (List.mem_cons_self ..)
        rwa [ho] at this
      | succ i => exact h3 i g c (by simpa using hi) (by simpa using hci)
theorem open_struct {W : World} {t : TypeId} {fs : List Field} {fuel : Nat} {cs : List Value} {d : DataW H} {ps : List MemPlace} (ht : P.underlying t = some (.struct fs.toArray)) (hc : consec P 0 fs = true) (htot : P.cellsOf t = total P fs)
    (h : DataW.trod enc P W 0 (fun _ => true) true fuel t cs = some (d, ps)) (hw : ∀ n ∈ d.weights P t, n ≤ reachBytes) :
    ∃ css : List (List Value), css.length = fs.length ∧ cs = css.flatten ∧ ∀ (i : Nat) (f : Field) (c : List Value), fs[i]? = some f → css[i]? = some c → FieldAt enc P W f.type c := by
  obtain ⟨xs, n, _, hx, hl, hxl, hf⟩ := DataW.trod_struct ht h
  obtain ⟨rfl, _⟩ := Prod.mk.inj hx
  have key : ∀ f ∈ fs, FieldAt enc P W f.type ((cs.drop f.offset).take (P.cellsOf f.type)) := by
    intro f hfm
    obtain ⟨i, hi, rfl⟩ := List.mem_iff_getElem.1 hfm
    have h1 := hf i fs[i] (by simp [hi])
    have hix : i < xs.length := by rw [hxl]; simpa using hi
    rw [List.getElem?_eq_getElem hix] at h1
    refine ⟨n, xs[i].1, xs[i].2, h1, fun q hq => hw q ?_⟩
    simp only [DataW.weights, ht]
    exact DataW.weights_mem_each (j := i) (by simp [hi]) (by simp [hix]) q hq
  obtain ⟨css, h1, h2, h3⟩ := split_fields (W := W) (Q := fun f c => FieldAt enc P W f.type c) fs 0 cs hc (by omega) key
  exact ⟨css, h1, by simpa using h2, h3⟩
theorem FieldAt.open_ {W : World} {t : TypeId} {cs : List Value} {α : Type} {dk : Kd α} (h : FieldAt enc P W t cs) (ho : Opens enc P t dk) : ∃ x : α, dk.R (fun _ => True) W x cs := by
  obtain ⟨fuel, d, ps, h1, h2⟩ := h
  exact ho W fuel cs d ps h1 h2
theorem len2 {α : Type} {l : List α} (h : l.length = 2) : ∃ a b, l = [a, b] := by match l, h with | [a, b], _ => exact ⟨a, b, rfl⟩
theorem len3 {α : Type} {l : List α} (h : l.length = 3) : ∃ a b c, l = [a, b, c] := by match l, h with | [a, b, c], _ => exact ⟨a, b, c, rfl⟩
theorem len4 {α : Type} {l : List α} (h : l.length = 4) : ∃ a b c d, l = [a, b, c, d] := by match l, h with | [a, b, c, d], _ => exact ⟨a, b, c, d, rfl⟩
theorem len10 {α : Type} {l : List α} (h : l.length = 10) : ∃ a b c d e f g i j k, l = [a, b, c, d, e, f, g, i, j, k] := by match l, h with | [a, b, c, d, e, f, g, i, j, k], _ => exact ⟨a, b, c, d, e, f, g, i, j, k, rfl⟩
def kTab : Kd (TV × Tab) where
  sz := 3
  by_ := 72
  pos := by decide
  R := fun F W x cs => cs = tabC x.1 x.2 ∧ TabR F W x.1 x.2
  len := by rintro F W x cs ⟨rfl, _⟩; rfl
  move := by rintro F W W' x cs hm ⟨rfl, h⟩; exact ⟨rfl, h.move hm⟩
  wide := by rintro F F' W x cs hm ⟨rfl, h⟩; exact ⟨rfl, h.1.wide hm (fun _ _ => by decide), h.2.1.wide hm (fun _ _ => by decide), h.2.2.wide hm (fun _ _ => by decide)⟩
theorem opens_tab {t tx ty tv : TypeId} {n1 n2 n3 : Field} (ht : P.underlying t = some (.struct [n1, n2, n3].toArray)) (hc : consec P 0 [n1, n2, n3] = true) (htot : P.cellsOf t = total P [n1, n2, n3]) (e1 : n1.type = tx) (e2 : n2.type = ty) (e3 : n3.type = tv)
    (h1 : Opens enc P tx (kSl kInt (by decide))) (h2 : Opens enc P ty (kSl kInt (by decide))) (h3 : Opens enc P tv (kSl kRow (by decide))) : Opens enc P t kTab := by
  subst e1; subst e2; subst e3
  intro W fuel cs d ps h hw
  obtain ⟨css, hl, rfl, hf⟩ := open_struct ht hc htot h hw
  obtain ⟨a, b, c, rfl⟩ := len3 hl
  obtain ⟨X, sx, rfl, hX⟩ := (hf 0 _ _ rfl rfl).open_ h1
  obtain ⟨Y, sy, rfl, hY⟩ := (hf 1 _ _ rfl rfl).open_ h2
  obtain ⟨V, sv, rfl, hV⟩ := (hf 2 _ _ rfl rfl).open_ h3
  exact ⟨(⟨sx, sy, sv⟩, ⟨X, Y, V⟩), rfl, hX, hY, hV⟩
def kAir : Kd Air := kOf airC 8 64 (by decide) (fun _ => rfl)
theorem opens_span {t ti : TypeId} {n1 n2 : Field} (ht : P.underlying t = some (.struct [n1, n2].toArray)) (hc : consec P 0 [n1, n2] = true) (htot : P.cellsOf t = total P [n1, n2]) (e1 : n1.type = ti) (e2 : n2.type = ti) (h1 : Opens enc P ti kInt) : Opens enc P t kSpan := by
  subst e1
  intro W fuel cs d ps h hw
  obtain ⟨css, hl, rfl, hf⟩ := open_struct ht hc htot h hw
  obtain ⟨a, b, rfl⟩ := len2 hl
  obtain ⟨x, e1⟩ := (hf 0 _ _ rfl rfl).open_ h1
  obtain ⟨y, e3⟩ := (hf 1 _ _ rfl rfl).open_ (by rw [e2]; exact h1)
  exact ⟨⟨x, y⟩, by have e1' : a = [.int .i64 x] := e1; have e3' : b = [.int .i64 y] := e3; subst e1'; subst e3'; rfl⟩
theorem opens_air {t ts : TypeId} {n1 n2 n3 n4 : Field} (ht : P.underlying t = some (.struct [n1, n2, n3, n4].toArray)) (hc : consec P 0 [n1, n2, n3, n4] = true) (htot : P.cellsOf t = total P [n1, n2, n3, n4]) (e1 : n1.type = ts) (e2 : n2.type = ts) (e3 : n3.type = ts) (e4 : n4.type = ts)
    (h1 : Opens enc P ts kSpan) : Opens enc P t kAir := by
  subst e1
  intro W fuel cs d ps h hw
  obtain ⟨css, hl, rfl, hf⟩ := open_struct ht hc htot h hw
  obtain ⟨a, b, c, e, rfl⟩ := len4 hl
  obtain ⟨x1, r1⟩ := (hf 0 _ _ rfl rfl).open_ h1
  obtain ⟨x2, r2⟩ := (hf 1 _ _ rfl rfl).open_ (by rw [e2]; exact h1)
  obtain ⟨x3, r3⟩ := (hf 2 _ _ rfl rfl).open_ (by rw [e3]; exact h1)
  obtain ⟨x4, r4⟩ := (hf 3 _ _ rfl rfl).open_ (by rw [e4]; exact h1)
  refine ⟨⟨x1, x2, x3, x4⟩, ?_⟩
  have r1' : a = spanC x1 := r1; have r2' : b = spanC x2 := r2; have r3' : c = spanC x3 := r3; have r4' : e = spanC x4 := r4
  subst r1'; subst r2'; subst r3'; subst r4'; rfl
theorem open_rot {t tt ti : TypeId} {n1 n2 n3 n4 n5 n6 n7 n8 n9 n10 : Field} (ht : P.underlying t = some (.struct [n1, n2, n3, n4, n5, n6, n7, n8, n9, n10].toArray)) (hc : consec P 0 [n1, n2, n3, n4, n5, n6, n7, n8, n9, n10] = true) (htot : P.cellsOf t = total P [n1, n2, n3, n4, n5, n6, n7, n8, n9, n10])
    (he : [n1, n2, n3, n4, n5, n6, n7, n8, n9, n10].map (·.type) = [tt, tt, tt, tt, tt, tt, tt, tt, ti, ti]) (h1 : Opens enc P tt kTab) (h2 : Opens enc P ti kInt) {W : World} {cs : List Value} (h : FieldAt enc P W t cs) : ∃ (V : RV) (r : Rot), cs = rotC V r ∧ RotR (fun _ => True) W V r := by
  obtain ⟨fuel, d, ps, h, hw⟩ := h
  obtain ⟨css, hl, rfl, hf⟩ := open_struct ht hc htot h hw
  simp only [List.map_cons, List.map_nil, List.cons.injEq, and_true] at he
  obtain ⟨e1, e2, e3, e4, e5, e6, e7, e8, e9, e10⟩ := he
  obtain ⟨c1, c2, c3, c4, c5, c6, c7, c8, c9, c10, rfl⟩ := len10 hl
  obtain ⟨x1, q1, r1⟩ := (hf 0 _ _ rfl rfl).open_ (by rw [e1]; exact h1)
  obtain ⟨x2, q2, r2⟩ := (hf 1 _ _ rfl rfl).open_ (by rw [e2]; exact h1)
  obtain ⟨x3, q3, r3⟩ := (hf 2 _ _ rfl rfl).open_ (by rw [e3]; exact h1)
  obtain ⟨x4, q4, r4⟩ := (hf 3 _ _ rfl rfl).open_ (by rw [e4]; exact h1)
  obtain ⟨x5, q5, r5⟩ := (hf 4 _ _ rfl rfl).open_ (by rw [e5]; exact h1)
  obtain ⟨x6, q6, r6⟩ := (hf 5 _ _ rfl rfl).open_ (by rw [e6]; exact h1)
  obtain ⟨x7, q7, r7⟩ := (hf 6 _ _ rfl rfl).open_ (by rw [e7]; exact h1)
  obtain ⟨x8, q8, r8⟩ := (hf 7 _ _ rfl rfl).open_ (by rw [e8]; exact h1)
  obtain ⟨x9, r9⟩ := (hf 8 _ _ rfl rfl).open_ (by rw [e9]; exact h2)
  obtain ⟨x10, r10⟩ := (hf 9 _ _ rfl rfl).open_ (by rw [e10]; exact h2)
  have r9' : c9 = [.int .i64 x9] := r9; have r10' : c10 = [.int .i64 x10] := r10
  subst q1; subst q2; subst q3; subst q4; subst q5; subst q6; subst q7; subst q8; subst r9'; subst r10'
  exact ⟨⟨x1.1, x2.1, x3.1, x4.1, x5.1, x6.1, x7.1, x8.1⟩, ⟨x1.2, x2.2, x3.2, x4.2, x5.2, x6.2, x7.2, x8.2, x9, x10⟩, rfl, ⟨r1, r2, r3, r4, r5, r6, r7, r8⟩⟩
theorem field_arg {W : World} {ts : List TypeId} {ds : List (DataW H)} {j : Nat} {t : TypeId} {v : Value} {d : DataW H} {ps : List MemPlace} (hsz : (DataW.weightsEach P ts ds).all (· ≤ reachBytes) = true) (ht : ts[j]? = some t) (hd : ds[j]? = some d)
    (h : DataW.Trod enc P W 0 (fun _ => true) true t v d ps) : FieldAt enc P W t v.cells.toList := by
  obtain ⟨fuel, h⟩ := h
  exact ⟨fuel, d, ps, h, fun n hn => by simpa using List.all_eq_true.1 hsz n (DataW.weights_mem_each ht hd n hn)⟩
end
end Go.Proofs.YtdnodlgebpnfoaaGreat
namespace Go.Proofs.YtdnodlgebpnfoaaGreat
open Go Go.RowKit Go.Shelf Sw
section
variable {H : Type} {enc : TypeId × Value → H}
theorem o_int : Opens enc Tryz.prog 3 kInt := opens_int Tryz.underlying3
theorem o_ints : Opens enc Tryz.prog 22 (kSl kInt (by decide)) := opens_slice _ Tryz.underlying22 (by kernel_rfl) (by kernel_rfl) o_int
theorem o_rows : Opens enc Tryz.prog 23 (kSl kRow (by decide)) := opens_slice _ Tryz.underlying23 (by kernel_rfl) (by kernel_rfl) o_ints
theorem o_tab : Opens enc Tryz.prog 25 kTab := opens_tab Tryz.underlying25 (by kernel_rfl) (by kernel_rfl) rfl rfl rfl o_ints o_ints o_rows
theorem o_span : Opens enc Tryz.prog 31 kSpan := opens_span Tryz.underlying31 (by kernel_rfl) (by kernel_rfl) rfl rfl o_int
theorem o_air : Opens enc Tryz.prog 33 kAir := opens_air Tryz.underlying33 (by kernel_rfl) (by kernel_rfl) rfl rfl rfl rfl o_span
theorem o_rot {W : World} {cs : List Value} (h : FieldAt enc Tryz.prog W 27 cs) : ∃ (V : RV) (r : Rot), cs = rotC V r ∧ RotR (fun _ => True) W V r := open_rot Tryz.underlying27 (by kernel_rfl) (by kernel_rfl) rfl o_tab o_int h
theorem len8 {α : Type} {l : List α} (h : l.length = 8) : ∃ a b c d e f g i, l = [a, b, c, d, e, f, g, i] := by match l, h with | [a, b, c, d, e, f, g, i], _ => exact ⟨a, b, c, d, e, f, g, i, rfl⟩
theorem o_hind : Opens enc Tryz.prog 194 kHind := by
  intro W fuel cs d ps h hw
  obtain ⟨css, hl, rfl, hf⟩ := open_struct (fs := [_, _]) Tryz.underlying194 (by kernel_rfl) (by kernel_rfl) h hw
  obtain ⟨a, b, rfl⟩ := len2 hl
  obtain ⟨x, q1⟩ := (hf 0 _ _ rfl rfl).open_ o_int
  obtain ⟨y, q2⟩ := (hf 1 _ _ rfl rfl).open_ o_int
  have q1' : a = [.int .i64 x] := q1; have q2' : b = [.int .i64 y] := q2
  subst q1'; subst q2'
  exact ⟨⟨x, y⟩, rfl⟩
instance : Inhabited Hind := ⟨hindD⟩
instance : Inhabited Pose := ⟨poseD⟩
theorem o_hinds : Opens enc Tryz.prog 34 (kSl kHind (by decide)) := opens_slice _ Tryz.underlying34 (by kernel_rfl) (by kernel_rfl) o_hind
theorem o_craft {W : World} {cs : List Value} (h : FieldAt enc Tryz.prog W 29 cs) : ∃ (V : RV) (r : Rot) (c : Cr), cs = craftC V r c ∧ RotR (fun _ => True) W V r := by
  obtain ⟨fuel, d, ps, h, hw⟩ := h
  obtain ⟨css, hl, rfl, hf⟩ := open_struct (fs := [_, _, _, _, _, _, _, _]) Tryz.underlying29 (by kernel_rfl) (by kernel_rfl) h hw
  obtain ⟨a1, a2, a3, a4, a5, a6, a7, a8, rfl⟩ := len8 hl
  obtain ⟨V, r, q1, y⟩ := o_rot (hf 0 _ _ rfl rfl)
  obtain ⟨z1, p1⟩ := (hf 1 _ _ rfl rfl).open_ o_int
  obtain ⟨z2, p2⟩ := (hf 2 _ _ rfl rfl).open_ o_int
  obtain ⟨z3, p3⟩ := (hf 3 _ _ rfl rfl).open_ o_int
  obtain ⟨z4, p4⟩ := (hf 4 _ _ rfl rfl).open_ o_int
  obtain ⟨z5, p5⟩ := (hf 5 _ _ rfl rfl).open_ o_int
  obtain ⟨z6, p6⟩ := (hf 6 _ _ rfl rfl).open_ o_int
  obtain ⟨z7, p7⟩ := (hf 7 _ _ rfl rfl).open_ o_int
  have p1' : a2 = [.int .i64 z1] := p1; have p2' : a3 = [.int .i64 z2] := p2; have p3' : a4 = [.int .i64 z3] := p3; have p4' : a5 = [.int .i64 z4] := p4; have p5' : a6 = [.int .i64 z5] := p5; have p6' : a7 = [.int .i64 z6] := p6; have p7' : a8 = [.int .i64 z7] := p7
  subst q1; subst p1'; subst p2'; subst p3'; subst p4'; subst p5'; subst p6'; subst p7'
  exact ⟨V, r, ⟨z1, z2, z3, z4, z5, z6, z7⟩, rfl, y⟩
theorem o_field {W : World} {cs : List Value} (h : FieldAt enc Tryz.prog W 36 cs) : ∃ (s : SV) (f : Fld), cs = fldC s f ∧ Sl kHind (fun _ => True) W s f.hinds := by
  obtain ⟨fuel, d, ps, h, hw⟩ := h
  obtain ⟨css, hl, rfl, hf⟩ := open_struct (fs := [_, _, _, _]) Tryz.underlying36 (by kernel_rfl) (by kernel_rfl) h hw
  obtain ⟨a, b, c, e, rfl⟩ := len4 hl
  obtain ⟨x, q1⟩ := (hf 0 _ _ rfl rfl).open_ o_int
  obtain ⟨y, q2⟩ := (hf 1 _ _ rfl rfl).open_ o_int
  obtain ⟨z, q3⟩ := (hf 2 _ _ rfl rfl).open_ o_int
  obtain ⟨xs, s, q4, q5⟩ := (hf 3 _ _ rfl rfl).open_ o_hinds
  have q1' : a = [.int .i64 x] := q1; have q2' : b = [.int .i64 y] := q2; have q3' : c = [.int .i64 z] := q3
  subst q1'; subst q2'; subst q3'; subst q4
  exact ⟨s, ⟨x, y, z, xs⟩, rfl, q5⟩
end
end Go.Proofs.YtdnodlgebpnfoaaGreat
namespace Go.Proofs.YtdnodlgebpnfoaaGreat
open Go Go.RowKit Go.Shelf Go.ChangeShapes Go.WideShapes Go.ChangeAt Sw
theorem lw_engineRates_own : ownKnob Tryz.prog.godebug = none := fact_own
theorem lw_engineRates_laid : laidOutB Tryz.prog = true := fact_laid
set_option maxRecDepth 100000 in
theorem lw_engineRates_lifted (os : Os) (started : os.Started) (H : Type) (enc : TypeId × Value → H) :
    ReturnsInHanded {} Tryz.checked os 6 .any (Rows.engineRatesSpec.pre6 enc Tryz.prog Tryz.f6 Rows.engineRatesRow.domain false) (Rows.engineRatesSpec.post enc Tryz.prog Tryz.f6 false true false false) := by
  refine returnsInHanded_of_change_sized (C := Tryz.checked) lw_engineRates_own started (by kernel_rfl) Tryz.func6
    (ChangeSpec.witness6 (enc := enc) (C := Tryz.checked) false ⟨#[], #[.agg #[.slice none 0 0, .slice none 0 0, .slice none 0 0, .slice none 0 0, .slice none 0 0, .slice none 0 0, .slice none 0 0, .slice none 0 0, .slice none 0 0, .slice none 0 0, .slice none 0 0, .slice none 0 0, .slice none 0 0, .slice none 0 0, .slice none 0 0, .slice none 0 0, .slice none 0 0, .slice none 0 0, .slice none 0 0, .slice none 0 0, .slice none 0 0, .slice none 0 0, .slice none 0 0, .slice none 0 0, .int .i64 0, .int .i64 0, .int .i64 0, .int .i64 0, .int .i64 0, .int .i64 0, .int .i64 0, .int .i64 0, .int .i64 0], .agg #[.int .i64 0, .int .i64 0, .int .i64 0, .int .i64 0, .int .i64 0, .int .i64 0, .int .i64 0, .int .i64 0], .agg #[.int .i64 0, .int .i64 0, .int .i64 0, .slice none 0 0]], []⟩ 8 (by kernel_rfl) (by kernel_rfl) (by kernel_rfl) (by kernel_rfl)) ?_
  intro W base args ds gs before hval0 hW hcnd hsz0 _
  have hsz : (DataW.weightsEach Tryz.prog (Tryz.f6.params.toList ++ Rows.engineRatesSpec.plain.varTypes Tryz.prog) (ds ++ gs)).all (· ≤ reachBytes) = true := hsz0
  have hval : ∀ (j : Nat) t v, Tryz.f6.params[j]? = some t → args[j]? = some v → Value.okWide Tryz.prog W .any base t v := hval0
  have hW' := hW
  obtain ⟨p, q, hA0, hV, rfl, hfz, hnd⟩ := hW
  have hA : DataW.TrodAll enc Tryz.prog W 0 (fun _ => true) true Tryz.f6.params.toList args.toList ds p := hA0
  rw [Tryz.params6] at hA hval hsz
  obtain ⟨v0, vs0, d0, ds0, p0, q0, hargs, rfl, rfl, h0, r0⟩ := trodAll_cons hA
  obtain ⟨v1, vs1, d1, ds1, p1, q1, rfl, rfl, rfl, h1, r1⟩ := trodAll_cons r0
  obtain ⟨v2, vs2, d2, ds2, p2, q2, rfl, rfl, rfl, h2, r2⟩ := trodAll_cons r1
  obtain ⟨rfl, rfl, rfl⟩ := trodAll_nil r2
  obtain rfl : args = #[v0, v1, v2] := by cases args; simp_all
  obtain ⟨rfl, rfl⟩ := trodVars_none hV
  have lt0 : ∀ x ∈ p0, x.block < W.heap.size := by obtain ⟨m, hm⟩ := h0; exact DataW.trod_lt m _ _ _ hm
  have fa0 := field_arg hsz (j := 0) rfl rfl h0
  obtain ⟨c0, rfl, _⟩ := okWide_struct Tryz.underlying29 (hval 0 29 v0 rfl rfl)
  obtain ⟨V0, x0, n0, e0, y0⟩ := o_craft fa0
  obtain rfl : c0 = List.toArray _ := Array.toList_inj.1 (e0.trans rfl)
  have lt1 : ∀ x ∈ p1, x.block < W.heap.size := by obtain ⟨m, hm⟩ := h1; exact DataW.trod_lt m _ _ _ hm
  have fa1 := field_arg hsz (j := 1) rfl rfl h1
  obtain ⟨c1, rfl, _⟩ := okWide_struct Tryz.underlying33 (hval 1 33 v1 rfl rfl)
  obtain ⟨x1, e1⟩ := fa1.open_ o_air
  obtain rfl : c1 = List.toArray _ := Array.toList_inj.1 (e1.trans rfl)
  have lt2 : ∀ x ∈ p2, x.block < W.heap.size := by obtain ⟨m, hm⟩ := h2; exact DataW.trod_lt m _ _ _ hm
  have fa2 := field_arg hsz (j := 2) rfl rfl h2
  obtain ⟨c2, rfl, _⟩ := okWide_struct Tryz.underlying36 (hval 2 36 v2 rfl rfl)
  obtain ⟨s2, x2, e2, y2⟩ := o_field fa2
  obtain rfl : c2 = List.toArray _ := Array.toList_inj.1 (e2.trans rfl)
  refine Calls.mono (law03_EngineRates (Vr := V0) (r := x0) (c := n0) (hr := y0) (A := x1) (sf := s2) (f := x2) (hf := y2) : Ret Tryz.prog 6 _ W _) fun e W' he => ?_
  obtain ⟨v, rfl, bel, rfl⟩ := he
  exact ⟨_, rfl, _, _, _, [], _, [], hW', trodAll_mk1 (shut_bool Tryz.underlying4 _), (trodAll_cons_mk (Below.trod lw_engineRates_laid (by kernel_rfl) (of_decide_eq_true (by kernel_rfl)) h0 bel lt0) (trodAll_cons_mk (Below.trod lw_engineRates_laid (by kernel_rfl) (of_decide_eq_true (by kernel_rfl)) h1 bel lt1) (trodAll_cons_mk (Below.trod lw_engineRates_laid (by kernel_rfl) (of_decide_eq_true (by kernel_rfl)) h2 bel lt2) trodAll_mk0))), rfl, bel.frame _, fun h => by cases h⟩
end Go.Proofs.YtdnodlgebpnfoaaGreat
