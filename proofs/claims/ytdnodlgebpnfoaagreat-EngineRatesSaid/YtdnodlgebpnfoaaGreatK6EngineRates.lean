/- What the proof of EngineRates leans on, part 6: plain mathematics, the engine of the walks, the walks. -/
import Derived.Test.YtdnodlgebpnfoaaGreatK5EngineRates
set_option linter.unusedVariables false
set_option linter.unusedSimpArgs false
set_option linter.unnecessarySimpa false
namespace Go.Proofs.YtdnodlgebpnfoaaGreat
open Go Go.RowKit Go.Shelf Sw
theorem rates_next (r : Rot) (c : Cr) (a : Air) (s : Bool) (i : Nat) : ratesOf r c a s (i + 1) = ratesOf r c a s i ++ [rateAt r c a s (i : Int)] := by
  unfold ratesOf; rw [List.range_succ, List.map_append]; rfl
theorem rates_len (r : Rot) (c : Cr) (a : Air) (s : Bool) (i : Nat) : (ratesOf r c a s i).length = i := by unfold ratesOf; simp
set_option maxHeartbeats 8000000 in
set_option maxRecDepth 100000 in
theorem ref03_rates  (Vr : RV) (r : Rot) (c : Cr) (A : Air) {single : Bool} {w : World} {Fr : Nat → Prop} (hr : RotR Fr w Vr r) (hE : airE r c A = 0) : Ret Tryz.prog 123 [.agg (craftC Vr r c).toArray, .agg (airC A).toArray, .bool single] w (fun v W' => ∃ s : SV, v = .slice s.a ((ratesOf r c A single (c.top.toNat + 1))).length s.c ∧ Sl kInt (fun k => w.heap.size ≤ k) W' s (ratesOf r c A single (c.top.toNat + 1))) := by
 refine ret_start (n := 62) Tryz.func123 rfl rfl rfl (fun a hS => ?_)
 have Hr : ∀ W, Below w.heap.size w W → RotR Fr W Vr r := fun W hb => hr.move (keep_of hb)
 obtain ⟨_, hrok, haok, hp, hon, _⟩ := airE_ok hE
 have hRp := rot_p hrok
 have hH0 : errC r A (onHas r A) = 0 := errC_of hrok haok hon
 have hH : hasV r A = hasOf r A := if_pos hH0
 have hhi := has_in hE
 have hpw := pow_in hE single
 have hcl := hRp.climb; have hst := hp.step; have htp := hp.top; have hun := hp.unit
 have hden := prod_in (a := r.climb) (b := c.step) (A := 1000) (B := 1000) (by omega) (by omega) (by omega) (by omega)
 have hden1 : 1 * 1 ≤ r.climb * c.step := Int.mul_le_mul hcl.1 hst.1 (by decide) (by omega)
 refine wpIn_seq ?_
 refine wpIn_region_lit ?_
 refine st_box_agg hS rfl rfl rfl fun W a b0 hS => st_box_agg hS rfl rfl rfl fun W a b1 hS => st_v hS rfl rfl (run_assign hS rfl) fun a hS => wl_nil ?_
 refine wpIn_seq ?_
 refine wpIn_region_lit ?_
 refine st_v hS rfl rfl (run_fieldAddr fa29_0 hS rfl) fun a hS => st_v hS rfl rfl (run_load_agg (i := 1) (vs := [_, _, _, _, _, _, _, _, _, _, _, _, _, _, _, _, _, _, _, _, _, _, _, _, _, _]) Tryz.isAgg27 Tryz.sizeOf27 hS rfl rfl rfl ⟨rfl, rfl, rfl, rfl, rfl, rfl, rfl, rfl, rfl, rfl, rfl, rfl, rfl, rfl, rfl, rfl, rfl, rfl, rfl, rfl, rfl, rfl, rfl, rfl, rfl, rfl, trivial⟩) fun a hS => st_v hS rfl rfl (run_load_all (i := 0) Tryz.isAgg33 Tryz.sizeOf33 hS rfl rfl rfl) fun a hS => st_call (ref02_Has Vr r A (Hr _ hS.below)) Tryz.call180 hS rfl rfl rfl fun v W a hR hB hlt hS => ?_
 subst hR
 refine st_v hS rfl rfl (run_move hS rfl) fun a hS => st_v hS rfl rfl (run_extract hS rfl rfl) fun a hS => st_v hS rfl rfl (run_extract hS rfl rfl) fun a hS => st_alloc_agg Tryz.zeroValue31 hS rfl rfl fun W a b2 hS => st_store (i := 0) Tryz.sizeOf31 hS rfl rfl rfl rfl rfl rfl rfl rfl rfl fun W a hS => st_v hS rfl rfl (run_assign hS rfl) fun a hS => wl_nil ?_
 refine wpIn_seq ?_
 refine wpIn_seq ?_
 refine wpIn_region_lit ?_
 refine st_v hS rfl rfl (run_move hS rfl) fun a hS => wl_nil ?_
 refine st_cond hS rfl (fun hc1 => ?_) (fun hc1 => ?_)
 ·
  try simp only [ty] at hc1
  have hfl := half_ok hhi hp.one
  have hP : powOf r c A single = partOf (hasV r A) c.one 100 := by rw [powOf, hc1, if_pos rfl, hH]
  refine wpIn_region_lit ?_
  refine st_v hS rfl rfl (run_load_all (i := 0) Tryz.isAgg31 Tryz.sizeOf31 hS rfl rfl rfl) fun a hS => st_v hS rfl rfl (run_fieldAddr fa29_1 hS rfl) fun a hS => st_v hS rfl rfl (run_load_one (i := 2) Tryz.isAgg3 hS rfl rfl rfl) fun a hS => st_call (ref01_Part (hasV r A) (n := c.one) (d := 100)) Tryz.call195 hS rfl rfl rfl fun v W a hR hB hlt hS => ?_
  rw [hH, if_pos hfl.1, hfl.1, ← hH] at hR
  subst hR
  refine st_v hS rfl rfl (run_move hS rfl) fun a hS => st_v hS rfl rfl (run_extract hS rfl rfl) fun a hS => st_v hS rfl rfl (run_extract hS rfl rfl) fun a hS => st_store (i := 0) Tryz.sizeOf31 hS rfl rfl rfl rfl rfl rfl rfl rfl rfl fun W a hS => wl_nil ?_
  refine wpIn_seq ?_
  refine wpIn_region_lit ?_
  refine st_v hS rfl rfl (run_assign hS rfl) fun a hS => wl_nil ?_
  refine wpIn_seq ?_
  refine wpIn_seq ?_
  refine wpIn_region_lit ?_
  refine st_v hS rfl rfl (run_assign hS rfl) fun a hS => wl_nil ?_
  refine wpIn_block ?_
  refine st_loop2 (α := Nat × Value × List Value) (fun z => [(9, z.2.1), (10, .int .i64 ((z.1 : Nat) : Int))]) [(0, _), (1, _), (2, _), (3, _), (4, _), (6, _), (7, _)] (fun l z => l.take 3 ++ rowB z.2.1 z.2.2 3) (fun z => (z.1 : Int) ≤ c.top + 1 ∧ OwnL eInt 1 z.2.1 (ratesOf r c A single z.1) z.2.2) (fun z => (c.top + 1 - (z.1 : Int)).toNat) (⟨0, .slice none 0 0, []⟩) hS (Sub.cons rfl (Sub.cons rfl (Sub.cons rfl (Sub.cons rfl (Sub.cons rfl (Sub.cons rfl (Sub.cons rfl (Sub.cons rfl (Sub.cons rfl Sub.nil))))))))) rfl (⟨by dsimp only; omega, OwnR.nil 1⟩) (fun z W a hφ hS => ?_)
  obtain ⟨i, v, cs⟩ := z
  dsimp only [setB, List.cons_append, List.nil_append, List.take] at hS hφ
  obtain ⟨hi, hO⟩ := hφ
  have hlen := rates_len r c A single i
  refine wpIn_seq ?_
  refine wpIn_seq ?_
  refine wpIn_region_lit ?_
  refine st_v hS rfl rfl (run_move hS rfl) fun a hS => st_v hS rfl rfl (run_fieldAddr fa29_4 hS rfl) fun a hS => st_v hS rfl rfl (run_load_one (i := 2) Tryz.isAgg3 hS rfl rfl rfl) fun a hS => st_v hS rfl rfl (run_bin hS rfl rfl rfl) fun a hS => wl_nil ?_
  refine st_cond hS rfl (fun hc2 => ?_) (fun hc2 => ?_)
  ·
   try simp only [ty] at hc2
   obtain ⟨hlo, hvu⟩ := level_on hE (v := ((i : Nat) : Int)) (by omega) (by omega)
   have hL0 : errC r A (onLevel r A (one (((i : Nat) : Int) * c.unit))) = 0 := errC_of hrok haok hlo
   have hL : levelV r A (one (((i : Nat) : Int) * c.unit)) = levelOf r A (one (((i : Nat) : Int) * c.unit)) := if_pos hL0
   have hli := levelOf_in hrok haok hlo
   refine wpIn_skip ?_
   refine wpIn_seq ?_
   refine wpIn_block ?_
   refine wpIn_seq ?_
   have hS := hS.sub (κ' := [(0, _), (1, _), (2, _), (3, _), (4, _), (6, _), (7, _), (9, _), (10, _)]) (Sub.cons rfl (Sub.cons rfl (Sub.cons rfl (Sub.cons rfl (Sub.cons rfl (Sub.cons rfl (Sub.cons rfl (Sub.cons rfl (Sub.cons rfl Sub.nil)))))))))
   refine st_cutN (fun b => [(12, .int .i64 (errC r A (onLevel r A (one (((i : Nat) : Int) * c.unit))))), (11, .pointer (some ⟨b, 0, none⟩))]) (fun b => [⟨b, spanC (levelV r A (one (((i : Nat) : Int) * c.unit))), 31⟩]) hS ?_ ?_
   ·
    refine anyh_start (by kernel_rfl) [true, true, true] hS fun W hS => ?_
    refine anyh_take (i := 0) [true, true, true] hS (fun _ h => h) rfl rfl (by kernel_rfl) (by kernel_rfl) (by kernel_rfl) rfl rfl (fun W' hS => run_fieldAddr fa29_0 hS rfl) fun a hS => ?_
    refine anyh_take (i := 1) [true, true, true] hS (fun _ h => h) rfl rfl (by kernel_rfl) (by kernel_rfl) (by kernel_rfl) rfl rfl (fun W' hS => run_load_agg (i := 2) (vs := [_, _, _, _, _, _, _, _, _, _, _, _, _, _, _, _, _, _, _, _, _, _, _, _, _, _]) Tryz.isAgg27 Tryz.sizeOf27 hS rfl rfl rfl ⟨rfl, rfl, rfl, rfl, rfl, rfl, rfl, rfl, rfl, rfl, rfl, rfl, rfl, rfl, rfl, rfl, rfl, rfl, rfl, rfl, rfl, rfl, rfl, rfl, rfl, rfl, trivial⟩) fun a hS => ?_
    refine anyh_take (i := 2) [true, true, true] hS (fun _ h => h) rfl rfl (by kernel_rfl) (by kernel_rfl) (by kernel_rfl) rfl rfl (fun W' hS => run_load_all (i := 1) Tryz.isAgg33 Tryz.sizeOf33 hS rfl rfl rfl) fun a hS => ?_
    refine anyh_take (i := 3) [true, true, true] hS (fun _ h => h) rfl rfl (by kernel_rfl) (by kernel_rfl) (by kernel_rfl) rfl rfl (fun W' hS => run_move hS rfl) fun a hS => ?_
    refine anyh_take (i := 4) [true, true, true] hS (fun _ h => h) rfl rfl (by kernel_rfl) (by kernel_rfl) (by kernel_rfl) rfl rfl (fun W' hS => run_fieldAddr fa29_2 hS rfl) fun a hS => ?_
    refine anyh_take (i := 5) [true, true, true] hS (fun _ h => h) rfl rfl (by kernel_rfl) (by kernel_rfl) (by kernel_rfl) rfl rfl (fun W' hS => run_load_one (i := 2) Tryz.isAgg3 hS rfl rfl rfl) fun a hS => ?_
    refine anyh_take (i := 6) [true, true, true] hS (fun _ h => h) rfl rfl (by kernel_rfl) (by kernel_rfl) (by kernel_rfl) rfl rfl (fun W' hS => run_mul (t := (((i : Nat) : Int) * c.unit)) hS rfl rfl (by rfl) (by omega)) fun a hS => ?_
    refine anyh_go (rs := [7, 12]) (by kernel_rfl) (by simp) ⟨⟨_, rfl, ?_⟩, ⟨_, rfl, ?_⟩, trivial⟩
    ·
     refine st_call (ref03_one) Tryz.call137 hS rfl rfl rfl fun v W a hR hB hlt hS => ?_
     subst hR
     refine wl_nil ?_
     refine anyh_next [true, true, true] hS (fun _ h => h) rfl ?_
     refine anyh_go (rs := [8, 12]) (by kernel_rfl) (by simp) ⟨⟨_, rfl, ?_⟩, ⟨_, rfl, ?_⟩, trivial⟩
     ·
      refine st_call (ref02_Level Vr r A (one (((i : Nat) : Int) * c.unit)) (Hr _ hS.below)) Tryz.call181 hS rfl rfl rfl fun v W a hR hB hlt hS => ?_
      subst hR
      refine wl_nil ?_
      refine anyh_next [true, true, true] hS (fun _ h => h) rfl ?_
      refine anyh_take (i := 9) [true, true, true] hS (fun _ h => h) rfl rfl (by kernel_rfl) (by kernel_rfl) (by kernel_rfl) rfl rfl (fun W' hS => run_move hS rfl) fun a hS => ?_
      refine anyh_take (i := 10) [true, true, true] hS (fun _ h => h) rfl rfl (by kernel_rfl) (by kernel_rfl) (by kernel_rfl) rfl rfl (fun W' hS => run_extract hS rfl rfl) fun a hS => ?_
      refine anyh_take (i := 11) [true, true, true] hS (fun _ h => h) rfl rfl (by kernel_rfl) (by kernel_rfl) (by kernel_rfl) rfl rfl (fun W' hS => run_extract hS rfl rfl) fun a hS => ?_
      refine anyh_go (rs := [12]) (by kernel_rfl) (by simp) ⟨⟨_, rfl, ?_⟩, trivial⟩
      refine st_alloc_agg Tryz.zeroValue31 hS rfl rfl fun W a b3 hS => wl_nil ?_
      refine anyh_next [false, true, true, true] hS (fun _ h => h) rfl ?_
      refine anyh_go (rs := [13]) (by kernel_rfl) (by simp) ⟨⟨_, rfl, ?_⟩, trivial⟩
      refine st_store (i := 0) Tryz.sizeOf31 hS rfl rfl rfl rfl rfl rfl rfl rfl rfl fun W a hS => wl_nil ?_
      refine anyh_next [false, true, true, true] hS (fun _ h => h) rfl ?_
      refine anyh_take (i := 14) [false, true, true, true] hS (fun _ h => h) rfl rfl (by kernel_rfl) (by kernel_rfl) (by kernel_rfl) rfl rfl (fun W' hS => run_assign hS rfl) fun a hS => ?_
      refine anyh_done (by kernel_rfl) ?_ _
      refine cut_end ⟨b3, ?_⟩
      dsimp only [List.cons_append, List.nil_append]
      exact ((hS.sub (Sub.cons rfl (Sub.cons rfl (Sub.cons rfl (Sub.cons rfl (Sub.cons rfl (Sub.cons rfl (Sub.cons rfl (Sub.cons rfl (Sub.cons rfl (Sub.cons rfl (Sub.cons rfl Sub.nil)))))))))))).drop (List.Sublist.cons_cons _ (List.Sublist.refl _)))
     ·
      refine st_alloc_agg Tryz.zeroValue31 hS rfl rfl fun W a b4 hS => wl_nil ?_
      refine anyh_next [false, true, true, true] hS (fun _ h => h) rfl ?_
      refine anyh_go (rs := [8]) (by kernel_rfl) (by simp) ⟨⟨_, rfl, ?_⟩, trivial⟩
      refine st_call (ref02_Level Vr r A (one (((i : Nat) : Int) * c.unit)) (Hr _ hS.below)) Tryz.call181 hS rfl rfl rfl fun v W a hR hB hlt hS => ?_
      subst hR
      refine wl_nil ?_
      refine anyh_next [false, true, true, true] hS (fun _ h => h) rfl ?_
      refine anyh_take (i := 9) [false, true, true, true] hS (fun _ h => h) rfl rfl (by kernel_rfl) (by kernel_rfl) (by kernel_rfl) rfl rfl (fun W' hS => run_move hS rfl) fun a hS => ?_
      refine anyh_take (i := 10) [false, true, true, true] hS (fun _ h => h) rfl rfl (by kernel_rfl) (by kernel_rfl) (by kernel_rfl) rfl rfl (fun W' hS => run_extract hS rfl rfl) fun a hS => ?_
      refine anyh_take (i := 11) [false, true, true, true] hS (fun _ h => h) rfl rfl (by kernel_rfl) (by kernel_rfl) (by kernel_rfl) rfl rfl (fun W' hS => run_extract hS rfl rfl) fun a hS => ?_
      refine anyh_go (rs := [13]) (by kernel_rfl) (by simp) ⟨⟨_, rfl, ?_⟩, trivial⟩
      refine st_store (i := 0) Tryz.sizeOf31 hS rfl rfl rfl rfl rfl rfl rfl rfl rfl fun W a hS => wl_nil ?_
      refine anyh_next [false, true, true, true] hS (fun _ h => h) rfl ?_
      refine anyh_take (i := 14) [false, true, true, true] hS (fun _ h => h) rfl rfl (by kernel_rfl) (by kernel_rfl) (by kernel_rfl) rfl rfl (fun W' hS => run_assign hS rfl) fun a hS => ?_
      refine anyh_done (by kernel_rfl) ?_ _
      refine cut_end ⟨b4, ?_⟩
      dsimp only [List.cons_append, List.nil_append]
      exact ((hS.sub (Sub.cons rfl (Sub.cons rfl (Sub.cons rfl (Sub.cons rfl (Sub.cons rfl (Sub.cons rfl (Sub.cons rfl (Sub.cons rfl (Sub.cons rfl (Sub.cons rfl (Sub.cons rfl Sub.nil)))))))))))).drop (List.Sublist.cons_cons _ (List.Sublist.refl _)))
    ·
     refine st_alloc_agg Tryz.zeroValue31 hS rfl rfl fun W a b5 hS => wl_nil ?_
     refine anyh_next [false, true, true, true] hS (fun _ h => h) rfl ?_
     refine anyh_go (rs := [7]) (by kernel_rfl) (by simp) ⟨⟨_, rfl, ?_⟩, trivial⟩
     refine st_call (ref03_one) Tryz.call137 hS rfl rfl rfl fun v W a hR hB hlt hS => ?_
     subst hR
     refine wl_nil ?_
     refine anyh_next [false, true, true, true] hS (fun _ h => h) rfl ?_
     refine anyh_go (rs := [8]) (by kernel_rfl) (by simp) ⟨⟨_, rfl, ?_⟩, trivial⟩
     refine st_call (ref02_Level Vr r A (one (((i : Nat) : Int) * c.unit)) (Hr _ hS.below)) Tryz.call181 hS rfl rfl rfl fun v W a hR hB hlt hS => ?_
     subst hR
     refine wl_nil ?_
     refine anyh_next [false, true, true, true] hS (fun _ h => h) rfl ?_
     refine anyh_take (i := 9) [false, true, true, true] hS (fun _ h => h) rfl rfl (by kernel_rfl) (by kernel_rfl) (by kernel_rfl) rfl rfl (fun W' hS => run_move hS rfl) fun a hS => ?_
     refine anyh_take (i := 10) [false, true, true, true] hS (fun _ h => h) rfl rfl (by kernel_rfl) (by kernel_rfl) (by kernel_rfl) rfl rfl (fun W' hS => run_extract hS rfl rfl) fun a hS => ?_
     refine anyh_take (i := 11) [false, true, true, true] hS (fun _ h => h) rfl rfl (by kernel_rfl) (by kernel_rfl) (by kernel_rfl) rfl rfl (fun W' hS => run_extract hS rfl rfl) fun a hS => ?_
     refine anyh_go (rs := [13]) (by kernel_rfl) (by simp) ⟨⟨_, rfl, ?_⟩, trivial⟩
     refine st_store (i := 0) Tryz.sizeOf31 hS rfl rfl rfl rfl rfl rfl rfl rfl rfl fun W a hS => wl_nil ?_
     refine anyh_next [false, true, true, true] hS (fun _ h => h) rfl ?_
     refine anyh_take (i := 14) [false, true, true, true] hS (fun _ h => h) rfl rfl (by kernel_rfl) (by kernel_rfl) (by kernel_rfl) rfl rfl (fun W' hS => run_assign hS rfl) fun a hS => ?_
     refine anyh_done (by kernel_rfl) ?_ _
     refine cut_end ⟨b5, ?_⟩
     dsimp only [List.cons_append, List.nil_append]
     exact ((hS.sub (Sub.cons rfl (Sub.cons rfl (Sub.cons rfl (Sub.cons rfl (Sub.cons rfl (Sub.cons rfl (Sub.cons rfl (Sub.cons rfl (Sub.cons rfl (Sub.cons rfl (Sub.cons rfl Sub.nil)))))))))))).drop (List.Sublist.cons_cons _ (List.Sublist.refl _)))
   ·
    intro W a b6 hS
    dsimp only [List.cons_append, List.nil_append] at hS
    refine wpIn_region_lit ?_
    refine st_v hS rfl rfl (run_move hS rfl) fun a hS => st_v hS rfl rfl (run_fieldAddr fa31_0 hS rfl) fun a hS => st_v hS rfl rfl (run_load_one (i := 1) Tryz.isAgg3 hS rfl rfl rfl) fun a hS => st_v hS rfl rfl (run_fieldAddr fa31_1 hS rfl) fun a hS => st_v hS rfl rfl (run_load_one (i := 0) Tryz.isAgg3 hS rfl rfl rfl) fun a hS => st_v hS rfl rfl (run_sub (t := ((powOf r c A single).lo - (levelOf r A (one (((i : Nat) : Int) * c.unit))).hi)) hS rfl rfl (by (rw [hP, hL] <;> rfl)) (by omega) (by omega)) fun a hS => st_v hS rfl rfl (run_fieldAddr fa29_0 hS rfl) fun a hS => st_v hS rfl rfl (run_fieldAddr fa27_8 hS rfl) fun a hS => st_v hS rfl rfl (run_load_one (i := 3) Tryz.isAgg3 hS rfl rfl rfl) fun a hS => st_v hS rfl rfl (run_fieldAddr fa29_3 hS rfl) fun a hS => st_v hS rfl rfl (run_load_one (i := 3) Tryz.isAgg3 hS rfl rfl rfl) fun a hS => st_v hS rfl rfl (run_mul (t := (r.climb * c.step)) hS rfl rfl (by rfl) (by omega)) fun a hS => st_call (ref03_down (by omega) (by omega) (by omega)) Tryz.call196 hS rfl rfl rfl fun v W a hR hB hlt hS => ?_
    subst hR
    refine st_buildSlice (pv := [(0, .int .i64 _)]) (fun W => bs22_1_0 _ W) hS rfl rfl rfl fun W a b7 hS => st_append (l := [_, _, _, _, _]) (cs := cs) Tryz.underlying22 (AI.of ai3) (by decide) hS hO rfl rfl rfl rfl (src_own (sz := 1) Tryz.underlying22 hS (i := 0) rfl rfl rfl) (by omega) fun W a v0 cs0 hO0 hS => ?_
    have hO0' : OwnL eInt 1 v0 ((ratesOf r c A single i) ++ [rateAt r c A single ((i : Nat) : Int)]) cs0 := OwnL.app hO0 rfl rfl rfl rfl
    refine st_v hS rfl rfl (run_assign hS rfl) fun a hS => wl_nil ?_
    refine wpIn_region_lit ?_
    refine st_v hS rfl rfl (run_move hS rfl) fun a hS => st_v hS rfl rfl (run_add (t := ((i + 1 : Nat) : Int)) hS rfl rfl (by omega) (by omega) (by omega)) fun a hS => st_v hS rfl rfl (run_assign hS rfl) fun a hS => wl_nil ?_
    refine ⟨⟨i + 1, _, _⟩, ⟨⟨by dsimp only; omega, ?_⟩, by dsimp only; omega⟩, (hS.sub (Sub.cons rfl (Sub.cons rfl (Sub.cons rfl (Sub.cons rfl (Sub.cons rfl (Sub.cons rfl (Sub.cons rfl (Sub.cons rfl (Sub.cons rfl Sub.nil)))))))))).drop (List.Sublist.cons _ (List.Sublist.cons _ (List.Sublist.refl _)))⟩
    rw [rates_next]; assumption
  ·
   try simp only [ty] at hc2
   refine wpIn_exit ?_
   refine wpIn_seq ?_
   refine wpIn_region_lit ?_
   refine st_v hS rfl rfl (run_move hS rfl) fun a hS => st_v hS rfl rfl (run_assign hS rfl) fun a hS => wl_nil ?_
   refine wpIn_ret ?_
   repeat (first | refine q_ret ?_ | refine q_block_ret ?_)
   refine hS.done (res1 (fn := Tryz.f123) (r1 := .tmp 6) rfl (rv_tmp hS rfl)) ?_
   have e : i = c.top.toNat + 1 := by omega
   subst e
   exact OwnL.ints (l := [_, _, _]) hS (by assumption) (by omega)
 ·
  try simp only [ty] at hc1
  have hP : powOf r c A single = hasV r A := by rw [powOf, hc1, if_neg (by decide), hH]
  refine wpIn_skip ?_
  refine wpIn_seq ?_
  refine wpIn_region_lit ?_
  refine st_v hS rfl rfl (run_assign hS rfl) fun a hS => wl_nil ?_
  refine wpIn_seq ?_
  refine wpIn_seq ?_
  refine wpIn_region_lit ?_
  refine st_v hS rfl rfl (run_assign hS rfl) fun a hS => wl_nil ?_
  refine wpIn_block ?_
  refine st_loop2 (α := Nat × Value × List Value) (fun z => [(9, z.2.1), (10, .int .i64 ((z.1 : Nat) : Int))]) [(0, _), (1, _), (2, _), (3, _), (4, _), (6, _), (7, _)] (fun l z => l.take 3 ++ rowB z.2.1 z.2.2 3) (fun z => (z.1 : Int) ≤ c.top + 1 ∧ OwnL eInt 1 z.2.1 (ratesOf r c A single z.1) z.2.2) (fun z => (c.top + 1 - (z.1 : Int)).toNat) (⟨0, .slice none 0 0, []⟩) hS (Sub.cons rfl (Sub.cons rfl (Sub.cons rfl (Sub.cons rfl (Sub.cons rfl (Sub.cons rfl (Sub.cons rfl (Sub.cons rfl (Sub.cons rfl Sub.nil))))))))) rfl (⟨by dsimp only; omega, OwnR.nil 1⟩) (fun z W a hφ hS => ?_)
  obtain ⟨i, v, cs⟩ := z
  dsimp only [setB, List.cons_append, List.nil_append, List.take] at hS hφ
  obtain ⟨hi, hO⟩ := hφ
  have hlen := rates_len r c A single i
  refine wpIn_seq ?_
  refine wpIn_seq ?_
  refine wpIn_region_lit ?_
  refine st_v hS rfl rfl (run_move hS rfl) fun a hS => st_v hS rfl rfl (run_fieldAddr fa29_4 hS rfl) fun a hS => st_v hS rfl rfl (run_load_one (i := 2) Tryz.isAgg3 hS rfl rfl rfl) fun a hS => st_v hS rfl rfl (run_bin hS rfl rfl rfl) fun a hS => wl_nil ?_
  refine st_cond hS rfl (fun hc3 => ?_) (fun hc3 => ?_)
  ·
   try simp only [ty] at hc3
   obtain ⟨hlo, hvu⟩ := level_on hE (v := ((i : Nat) : Int)) (by omega) (by omega)
   have hL0 : errC r A (onLevel r A (one (((i : Nat) : Int) * c.unit))) = 0 := errC_of hrok haok hlo
   have hL : levelV r A (one (((i : Nat) : Int) * c.unit)) = levelOf r A (one (((i : Nat) : Int) * c.unit)) := if_pos hL0
   have hli := levelOf_in hrok haok hlo
   refine wpIn_skip ?_
   refine wpIn_seq ?_
   refine wpIn_block ?_
   refine wpIn_seq ?_
   have hS := hS.sub (κ' := [(0, _), (1, _), (2, _), (3, _), (4, _), (6, _), (7, _), (9, _), (10, _)]) (Sub.cons rfl (Sub.cons rfl (Sub.cons rfl (Sub.cons rfl (Sub.cons rfl (Sub.cons rfl (Sub.cons rfl (Sub.cons rfl (Sub.cons rfl Sub.nil)))))))))
   refine st_cutN (fun b => [(12, .int .i64 (errC r A (onLevel r A (one (((i : Nat) : Int) * c.unit))))), (11, .pointer (some ⟨b, 0, none⟩))]) (fun b => [⟨b, spanC (levelV r A (one (((i : Nat) : Int) * c.unit))), 31⟩]) hS ?_ ?_
   ·
    refine anyh_start (by kernel_rfl) [true, true, true] hS fun W hS => ?_
    refine anyh_take (i := 0) [true, true, true] hS (fun _ h => h) rfl rfl (by kernel_rfl) (by kernel_rfl) (by kernel_rfl) rfl rfl (fun W' hS => run_fieldAddr fa29_0 hS rfl) fun a hS => ?_
    refine anyh_take (i := 1) [true, true, true] hS (fun _ h => h) rfl rfl (by kernel_rfl) (by kernel_rfl) (by kernel_rfl) rfl rfl (fun W' hS => run_load_agg (i := 2) (vs := [_, _, _, _, _, _, _, _, _, _, _, _, _, _, _, _, _, _, _, _, _, _, _, _, _, _]) Tryz.isAgg27 Tryz.sizeOf27 hS rfl rfl rfl ⟨rfl, rfl, rfl, rfl, rfl, rfl, rfl, rfl, rfl, rfl, rfl, rfl, rfl, rfl, rfl, rfl, rfl, rfl, rfl, rfl, rfl, rfl, rfl, rfl, rfl, rfl, trivial⟩) fun a hS => ?_
    refine anyh_take (i := 2) [true, true, true] hS (fun _ h => h) rfl rfl (by kernel_rfl) (by kernel_rfl) (by kernel_rfl) rfl rfl (fun W' hS => run_load_all (i := 1) Tryz.isAgg33 Tryz.sizeOf33 hS rfl rfl rfl) fun a hS => ?_
    refine anyh_take (i := 3) [true, true, true] hS (fun _ h => h) rfl rfl (by kernel_rfl) (by kernel_rfl) (by kernel_rfl) rfl rfl (fun W' hS => run_move hS rfl) fun a hS => ?_
    refine anyh_take (i := 4) [true, true, true] hS (fun _ h => h) rfl rfl (by kernel_rfl) (by kernel_rfl) (by kernel_rfl) rfl rfl (fun W' hS => run_fieldAddr fa29_2 hS rfl) fun a hS => ?_
    refine anyh_take (i := 5) [true, true, true] hS (fun _ h => h) rfl rfl (by kernel_rfl) (by kernel_rfl) (by kernel_rfl) rfl rfl (fun W' hS => run_load_one (i := 2) Tryz.isAgg3 hS rfl rfl rfl) fun a hS => ?_
    refine anyh_take (i := 6) [true, true, true] hS (fun _ h => h) rfl rfl (by kernel_rfl) (by kernel_rfl) (by kernel_rfl) rfl rfl (fun W' hS => run_mul (t := (((i : Nat) : Int) * c.unit)) hS rfl rfl (by rfl) (by omega)) fun a hS => ?_
    refine anyh_go (rs := [7, 12]) (by kernel_rfl) (by simp) ⟨⟨_, rfl, ?_⟩, ⟨_, rfl, ?_⟩, trivial⟩
    ·
     refine st_call (ref03_one) Tryz.call137 hS rfl rfl rfl fun v W a hR hB hlt hS => ?_
     subst hR
     refine wl_nil ?_
     refine anyh_next [true, true, true] hS (fun _ h => h) rfl ?_
     refine anyh_go (rs := [8, 12]) (by kernel_rfl) (by simp) ⟨⟨_, rfl, ?_⟩, ⟨_, rfl, ?_⟩, trivial⟩
     ·
      refine st_call (ref02_Level Vr r A (one (((i : Nat) : Int) * c.unit)) (Hr _ hS.below)) Tryz.call181 hS rfl rfl rfl fun v W a hR hB hlt hS => ?_
      subst hR
      refine wl_nil ?_
      refine anyh_next [true, true, true] hS (fun _ h => h) rfl ?_
      refine anyh_take (i := 9) [true, true, true] hS (fun _ h => h) rfl rfl (by kernel_rfl) (by kernel_rfl) (by kernel_rfl) rfl rfl (fun W' hS => run_move hS rfl) fun a hS => ?_
      refine anyh_take (i := 10) [true, true, true] hS (fun _ h => h) rfl rfl (by kernel_rfl) (by kernel_rfl) (by kernel_rfl) rfl rfl (fun W' hS => run_extract hS rfl rfl) fun a hS => ?_
      refine anyh_take (i := 11) [true, true, true] hS (fun _ h => h) rfl rfl (by kernel_rfl) (by kernel_rfl) (by kernel_rfl) rfl rfl (fun W' hS => run_extract hS rfl rfl) fun a hS => ?_
      refine anyh_go (rs := [12]) (by kernel_rfl) (by simp) ⟨⟨_, rfl, ?_⟩, trivial⟩
      refine st_alloc_agg Tryz.zeroValue31 hS rfl rfl fun W a b8 hS => wl_nil ?_
      refine anyh_next [false, true, true, true] hS (fun _ h => h) rfl ?_
      refine anyh_go (rs := [13]) (by kernel_rfl) (by simp) ⟨⟨_, rfl, ?_⟩, trivial⟩
      refine st_store (i := 0) Tryz.sizeOf31 hS rfl rfl rfl rfl rfl rfl rfl rfl rfl fun W a hS => wl_nil ?_
      refine anyh_next [false, true, true, true] hS (fun _ h => h) rfl ?_
      refine anyh_take (i := 14) [false, true, true, true] hS (fun _ h => h) rfl rfl (by kernel_rfl) (by kernel_rfl) (by kernel_rfl) rfl rfl (fun W' hS => run_assign hS rfl) fun a hS => ?_
      refine anyh_done (by kernel_rfl) ?_ _
      refine cut_end ⟨b8, ?_⟩
      dsimp only [List.cons_append, List.nil_append]
      exact ((hS.sub (Sub.cons rfl (Sub.cons rfl (Sub.cons rfl (Sub.cons rfl (Sub.cons rfl (Sub.cons rfl (Sub.cons rfl (Sub.cons rfl (Sub.cons rfl (Sub.cons rfl (Sub.cons rfl Sub.nil)))))))))))).drop (List.Sublist.cons_cons _ (List.Sublist.refl _)))
     ·
      refine st_alloc_agg Tryz.zeroValue31 hS rfl rfl fun W a b9 hS => wl_nil ?_
      refine anyh_next [false, true, true, true] hS (fun _ h => h) rfl ?_
      refine anyh_go (rs := [8]) (by kernel_rfl) (by simp) ⟨⟨_, rfl, ?_⟩, trivial⟩
      refine st_call (ref02_Level Vr r A (one (((i : Nat) : Int) * c.unit)) (Hr _ hS.below)) Tryz.call181 hS rfl rfl rfl fun v W a hR hB hlt hS => ?_
      subst hR
      refine wl_nil ?_
      refine anyh_next [false, true, true, true] hS (fun _ h => h) rfl ?_
      refine anyh_take (i := 9) [false, true, true, true] hS (fun _ h => h) rfl rfl (by kernel_rfl) (by kernel_rfl) (by kernel_rfl) rfl rfl (fun W' hS => run_move hS rfl) fun a hS => ?_
      refine anyh_take (i := 10) [false, true, true, true] hS (fun _ h => h) rfl rfl (by kernel_rfl) (by kernel_rfl) (by kernel_rfl) rfl rfl (fun W' hS => run_extract hS rfl rfl) fun a hS => ?_
      refine anyh_take (i := 11) [false, true, true, true] hS (fun _ h => h) rfl rfl (by kernel_rfl) (by kernel_rfl) (by kernel_rfl) rfl rfl (fun W' hS => run_extract hS rfl rfl) fun a hS => ?_
      refine anyh_go (rs := [13]) (by kernel_rfl) (by simp) ⟨⟨_, rfl, ?_⟩, trivial⟩
      refine st_store (i := 0) Tryz.sizeOf31 hS rfl rfl rfl rfl rfl rfl rfl rfl rfl fun W a hS => wl_nil ?_
      refine anyh_next [false, true, true, true] hS (fun _ h => h) rfl ?_
      refine anyh_take (i := 14) [false, true, true, true] hS (fun _ h => h) rfl rfl (by kernel_rfl) (by kernel_rfl) (by kernel_rfl) rfl rfl (fun W' hS => run_assign hS rfl) fun a hS => ?_
      refine anyh_done (by kernel_rfl) ?_ _
      refine cut_end ⟨b9, ?_⟩
      dsimp only [List.cons_append, List.nil_append]
      exact ((hS.sub (Sub.cons rfl (Sub.cons rfl (Sub.cons rfl (Sub.cons rfl (Sub.cons rfl (Sub.cons rfl (Sub.cons rfl (Sub.cons rfl (Sub.cons rfl (Sub.cons rfl (Sub.cons rfl Sub.nil)))))))))))).drop (List.Sublist.cons_cons _ (List.Sublist.refl _)))
    ·
     refine st_alloc_agg Tryz.zeroValue31 hS rfl rfl fun W a b10 hS => wl_nil ?_
     refine anyh_next [false, true, true, true] hS (fun _ h => h) rfl ?_
     refine anyh_go (rs := [7]) (by kernel_rfl) (by simp) ⟨⟨_, rfl, ?_⟩, trivial⟩
     refine st_call (ref03_one) Tryz.call137 hS rfl rfl rfl fun v W a hR hB hlt hS => ?_
     subst hR
     refine wl_nil ?_
     refine anyh_next [false, true, true, true] hS (fun _ h => h) rfl ?_
     refine anyh_go (rs := [8]) (by kernel_rfl) (by simp) ⟨⟨_, rfl, ?_⟩, trivial⟩
     refine st_call (ref02_Level Vr r A (one (((i : Nat) : Int) * c.unit)) (Hr _ hS.below)) Tryz.call181 hS rfl rfl rfl fun v W a hR hB hlt hS => ?_
     subst hR
     refine wl_nil ?_
     refine anyh_next [false, true, true, true] hS (fun _ h => h) rfl ?_
     refine anyh_take (i := 9) [false, true, true, true] hS (fun _ h => h) rfl rfl (by kernel_rfl) (by kernel_rfl) (by kernel_rfl) rfl rfl (fun W' hS => run_move hS rfl) fun a hS => ?_
     refine anyh_take (i := 10) [false, true, true, true] hS (fun _ h => h) rfl rfl (by kernel_rfl) (by kernel_rfl) (by kernel_rfl) rfl rfl (fun W' hS => run_extract hS rfl rfl) fun a hS => ?_
     refine anyh_take (i := 11) [false, true, true, true] hS (fun _ h => h) rfl rfl (by kernel_rfl) (by kernel_rfl) (by kernel_rfl) rfl rfl (fun W' hS => run_extract hS rfl rfl) fun a hS => ?_
     refine anyh_go (rs := [13]) (by kernel_rfl) (by simp) ⟨⟨_, rfl, ?_⟩, trivial⟩
     refine st_store (i := 0) Tryz.sizeOf31 hS rfl rfl rfl rfl rfl rfl rfl rfl rfl fun W a hS => wl_nil ?_
     refine anyh_next [false, true, true, true] hS (fun _ h => h) rfl ?_
     refine anyh_take (i := 14) [false, true, true, true] hS (fun _ h => h) rfl rfl (by kernel_rfl) (by kernel_rfl) (by kernel_rfl) rfl rfl (fun W' hS => run_assign hS rfl) fun a hS => ?_
     refine anyh_done (by kernel_rfl) ?_ _
     refine cut_end ⟨b10, ?_⟩
     dsimp only [List.cons_append, List.nil_append]
     exact ((hS.sub (Sub.cons rfl (Sub.cons rfl (Sub.cons rfl (Sub.cons rfl (Sub.cons rfl (Sub.cons rfl (Sub.cons rfl (Sub.cons rfl (Sub.cons rfl (Sub.cons rfl (Sub.cons rfl Sub.nil)))))))))))).drop (List.Sublist.cons_cons _ (List.Sublist.refl _)))
   ·
    intro W a b11 hS
    dsimp only [List.cons_append, List.nil_append] at hS
    refine wpIn_region_lit ?_
    refine st_v hS rfl rfl (run_move hS rfl) fun a hS => st_v hS rfl rfl (run_fieldAddr fa31_0 hS rfl) fun a hS => st_v hS rfl rfl (run_load_one (i := 1) Tryz.isAgg3 hS rfl rfl rfl) fun a hS => st_v hS rfl rfl (run_fieldAddr fa31_1 hS rfl) fun a hS => st_v hS rfl rfl (run_load_one (i := 0) Tryz.isAgg3 hS rfl rfl rfl) fun a hS => st_v hS rfl rfl (run_sub (t := ((powOf r c A single).lo - (levelOf r A (one (((i : Nat) : Int) * c.unit))).hi)) hS rfl rfl (by (rw [hP, hL] <;> rfl)) (by omega) (by omega)) fun a hS => st_v hS rfl rfl (run_fieldAddr fa29_0 hS rfl) fun a hS => st_v hS rfl rfl (run_fieldAddr fa27_8 hS rfl) fun a hS => st_v hS rfl rfl (run_load_one (i := 3) Tryz.isAgg3 hS rfl rfl rfl) fun a hS => st_v hS rfl rfl (run_fieldAddr fa29_3 hS rfl) fun a hS => st_v hS rfl rfl (run_load_one (i := 3) Tryz.isAgg3 hS rfl rfl rfl) fun a hS => st_v hS rfl rfl (run_mul (t := (r.climb * c.step)) hS rfl rfl (by rfl) (by omega)) fun a hS => st_call (ref03_down (by omega) (by omega) (by omega)) Tryz.call196 hS rfl rfl rfl fun v W a hR hB hlt hS => ?_
    subst hR
    refine st_buildSlice (pv := [(0, .int .i64 _)]) (fun W => bs22_1_0 _ W) hS rfl rfl rfl fun W a b12 hS => st_append (l := [_, _, _, _, _]) (cs := cs) Tryz.underlying22 (AI.of ai3) (by decide) hS hO rfl rfl rfl rfl (src_own (sz := 1) Tryz.underlying22 hS (i := 0) rfl rfl rfl) (by omega) fun W a v1 cs1 hO1 hS => ?_
    have hO1' : OwnL eInt 1 v1 ((ratesOf r c A single i) ++ [rateAt r c A single ((i : Nat) : Int)]) cs1 := OwnL.app hO1 rfl rfl rfl rfl
    refine st_v hS rfl rfl (run_assign hS rfl) fun a hS => wl_nil ?_
    refine wpIn_region_lit ?_
    refine st_v hS rfl rfl (run_move hS rfl) fun a hS => st_v hS rfl rfl (run_add (t := ((i + 1 : Nat) : Int)) hS rfl rfl (by omega) (by omega) (by omega)) fun a hS => st_v hS rfl rfl (run_assign hS rfl) fun a hS => wl_nil ?_
    refine ⟨⟨i + 1, _, _⟩, ⟨⟨by dsimp only; omega, ?_⟩, by dsimp only; omega⟩, (hS.sub (Sub.cons rfl (Sub.cons rfl (Sub.cons rfl (Sub.cons rfl (Sub.cons rfl (Sub.cons rfl (Sub.cons rfl (Sub.cons rfl (Sub.cons rfl Sub.nil)))))))))).drop (List.Sublist.cons _ (List.Sublist.cons _ (List.Sublist.refl _)))⟩
    rw [rates_next]; assumption
  ·
   try simp only [ty] at hc3
   refine wpIn_exit ?_
   refine wpIn_seq ?_
   refine wpIn_region_lit ?_
   refine st_v hS rfl rfl (run_move hS rfl) fun a hS => st_v hS rfl rfl (run_assign hS rfl) fun a hS => wl_nil ?_
   refine wpIn_ret ?_
   repeat (first | refine q_ret ?_ | refine q_block_ret ?_)
   refine hS.done (res1 (fn := Tryz.f123) (r1 := .tmp 6) rfl (rv_tmp hS rfl)) ?_
   have e : i = c.top.toNat + 1 := by omega
   subst e
   exact OwnL.ints (l := [_, _, _]) hS (by assumption) (by omega)
def ratesV (r : Rot) (c : Cr) (a : Air) (s : Bool) : List Int := if airE r c a = 0 then ratesOf r c a s (c.top.toNat + 1) else []
set_option maxHeartbeats 2000000 in
set_option maxRecDepth 100000 in
theorem ref03_Rates (Vr : RV) (r : Rot) (c : Cr) (A : Air) {single : Bool} {w : World} {Fr : Nat → Prop} (hr : RotR Fr w Vr r) : Ret Tryz.prog 44 [.agg (craftC Vr r c).toArray, .agg (airC A).toArray, .bool single] w (fun v W' => ∃ s : SV, v = .tuple #[.slice s.a (ratesV r c A single).length s.c, .int .i64 (airE r c A)] ∧ Sl kInt (fun k => w.heap.size ≤ k) W' s (ratesV r c A single)) := by
 refine ret_start (n := 19) Tryz.func44 rfl rfl rfl (fun a hS => ?_)
 have Hr : ∀ W, Below w.heap.size w W → RotR Fr W Vr r := fun W hb => hr.move (keep_of hb)
 refine wpIn_seq ?_
 refine wpIn_region_lit ?_
 refine st_box_agg hS rfl rfl rfl fun W a b0 hS => st_box_agg hS rfl rfl rfl fun W a b1 hS => st_v hS rfl rfl (run_assign hS rfl) fun a hS => st_v hS rfl rfl (run_assign hS rfl) fun a hS => wl_nil ?_
 refine wpIn_seq ?_
 refine wpIn_seq ?_
 refine wpIn_region_lit ?_
 refine st_v hS rfl rfl (run_load_all (i := 1) Tryz.isAgg29 Tryz.sizeOf29 hS rfl rfl rfl) fun a hS => st_v hS rfl rfl (run_load_all (i := 0) Tryz.isAgg33 Tryz.sizeOf33 hS rfl rfl rfl) fun a hS => st_call (ref03_CheckAir Vr r c A (Hr _ hS.below)) Tryz.call85 hS rfl rfl rfl fun v W a hR hB hlt hS => ?_
 subst hR
 refine st_v hS rfl rfl (run_assign hS rfl) fun a hS => wl_nil ?_
 refine wpIn_seq ?_
 refine wpIn_region_lit ?_
 refine st_v hS rfl rfl (run_move hS rfl) fun a hS => st_v hS rfl rfl (run_bin hS rfl rfl rfl) fun a hS => wl_nil ?_
 refine st_cond hS rfl (fun hc1 => ?_) (fun hc1 => ?_)
 ·
  try simp only [ty] at hc1
  refine wpIn_seq ?_
  refine wpIn_region_lit ?_
  refine st_v hS rfl rfl (run_move hS rfl) fun a hS => st_v hS rfl rfl (run_assign hS rfl) fun a hS => st_v hS rfl rfl (run_assign hS rfl) fun a hS => wl_nil ?_
  refine wpIn_ret ?_
  repeat (first | refine q_ret ?_ | refine q_block_ret ?_)
  refine hS.done (res2 (fn := Tryz.f44) (r1 := .tmp 6) (r2 := .tmp 7) rfl (rv_tmp hS rfl) (rv_tmp hS rfl)) ?_
  have e : ratesV r c A single = [] := if_neg hc1
  rw [e]; exact ⟨⟨none, 0⟩, rfl, sl_nil _ _ _⟩
 ·
  try simp only [ty] at hc1
  refine wpIn_skip ?_
  refine wpIn_seq ?_
  refine wpIn_region_lit ?_
  refine st_v hS rfl rfl (run_load_all (i := 1) Tryz.isAgg29 Tryz.sizeOf29 hS rfl rfl rfl) fun a hS => st_v hS rfl rfl (run_load_all (i := 0) Tryz.isAgg33 Tryz.sizeOf33 hS rfl rfl rfl) fun a hS => st_v hS rfl rfl (run_move hS rfl) fun a hS => ?_
  have hw0 := hS.below.size
  refine st_call (ref03_rates Vr r c A (Hr _ hS.below) (by exact hc1)) Tryz.call123 hS rfl rfl rfl fun v W a hR hB hlt hS => ?_
  obtain ⟨s0, rfl, hs0⟩ := hR
  have hS := hS.moreSl hlt hs0
  refine st_v hS rfl rfl (run_assign hS rfl) fun a hS => st_v hS rfl rfl (run_assign hS rfl) fun a hS => wl_nil ?_
  refine wpIn_ret ?_
  repeat (first | refine q_ret ?_ | refine q_block_ret ?_)
  refine hS.done (res2 (fn := Tryz.f44) (r1 := .tmp 6) (r2 := .tmp 7) rfl (rv_tmp hS rfl) (rv_tmp hS rfl)) ?_
  have e : ratesV r c A single = ratesOf r c A single (c.top.toNat + 1) := if_pos hc1
  rw [e, hc1]; exact ⟨_, rfl, (hS.now.2).wide (fun k hk _ => Nat.le_trans (by assumption) hk) (fun _ _ => by decide)⟩
theorem ints_eq {xs ys : List Int} (h : xs.length = ys.length) (hg : ∀ j, j < xs.length → ix xs j = ix ys j) : xs = ys :=
  List.ext_getElem h fun j h1 h2 => by have := hg j h1; simpa [ix, List.getD_eq_getElem?_getD, h1, h2] using this
set_option maxHeartbeats 2000000 in
set_option maxRecDepth 100000 in
theorem law03_sameInts  (sxs : SV) (xs : List Int) (sys : SV) (ys : List Int) {w : World} {Fxs : Nat → Prop} (hxs : Sl kInt Fxs w sxs xs) {Fys : Nat → Prop} (hys : Sl kInt Fys w sys ys)  : Ret Tryz.prog 45 [.slice sxs.a xs.length sxs.c, .slice sys.a ys.length sys.c] w (fun v _ => v = .bool (decide (xs = ys))) := by
 refine ret_start (n := 26) Tryz.func45 rfl rfl rfl (fun a hS => ?_)
 have Hxs : ∀ W, Below w.heap.size w W → Sl kInt Fxs W sxs xs := fun W hb => hxs.at_ hb
 have hmxs := hxs.len
 have Hys : ∀ W, Below w.heap.size w W → Sl kInt Fys W sys ys := fun W hb => hys.at_ hb
 have hmys := hys.len
 refine wpIn_seq ?_
 refine wpIn_region_lit ?_
 refine st_v hS rfl rfl (run_assign hS rfl) fun a hS => wl_nil ?_
 refine wpIn_seq ?_
 refine wpIn_seq ?_
 refine wpIn_region_lit ?_
 refine st_v hS rfl rfl (run_move hS rfl) fun a hS => st_v hS rfl rfl (run_len_slice Tryz.underlying22 hS rfl) fun a hS => st_v hS rfl rfl (run_move hS rfl) fun a hS => st_v hS rfl rfl (run_len_slice Tryz.underlying22 hS rfl) fun a hS => st_v hS rfl rfl (run_bin hS rfl rfl rfl) fun a hS => wl_nil ?_
 refine st_cond hS rfl (fun hc1 => ?_) (fun hc1 => ?_)
 ·
  try simp only [ty] at hc1
  refine wpIn_seq ?_
  refine wpIn_region_lit ?_
  refine st_v hS rfl rfl (run_assign hS rfl) fun a hS => wl_nil ?_
  refine wpIn_ret ?_
  repeat (first | refine q_ret ?_ | refine q_block_ret ?_)
  refine hS.done (res1 (fn := Tryz.f45) (r1 := .tmp 4) rfl (rv_tmp hS rfl)) ?_
  have h : ¬ xs = ys := fun e => by subst e; omega
  rw [decide_eq_false h]
 ·
  try simp only [ty] at hc1
  refine wpIn_skip ?_
  refine wpIn_seq ?_
  refine wpIn_seq ?_
  refine wpIn_region_lit ?_
  refine st_v hS rfl rfl (run_assign hS rfl) fun a hS => wl_nil ?_
  refine wpIn_block ?_
  refine st_loop2 (α := Nat) (fun i => [(5, .int .i64 (((i : Nat) : Int)))]) [(0, _), (1, _)] (fun l _ => l) (fun i => i ≤ xs.length ∧ ∀ j, j < i → ix xs j = ix ys j) (fun i => xs.length - i) (0) hS (Sub.cons rfl (Sub.cons rfl (Sub.cons rfl Sub.nil))) rfl (⟨Nat.zero_le _, fun j hj => absurd hj (Nat.not_lt_zero j)⟩) (fun i W a hφ hS => ?_)
  dsimp only [setB, List.cons_append, List.nil_append, List.take] at hS
  obtain ⟨hi, hg⟩ := hφ
  refine wpIn_seq ?_
  refine wpIn_seq ?_
  refine wpIn_region_lit ?_
  refine st_v hS rfl rfl (run_move hS rfl) fun a hS => st_v hS rfl rfl (run_move hS rfl) fun a hS => st_v hS rfl rfl (run_len_slice Tryz.underlying22 hS rfl) fun a hS => st_v hS rfl rfl (run_bin hS rfl rfl rfl) fun a hS => wl_nil ?_
  refine st_cond hS rfl (fun hc2 => ?_) (fun hc2 => ?_)
  ·
   try simp only [ty] at hc2
   refine wpIn_skip ?_
   refine wpIn_seq ?_
   refine wpIn_block ?_
   refine wpIn_seq ?_
   refine st_draw (by kernel_rfl) (by kernel_rfl) hS ?_
   refine qt_v hS rfl rfl (fun W hB hS => run_move hS rfl) fun a hS => qt_v hS rfl rfl (fun W hB hS => run_move hS rfl) fun a hS => ?_
   obtain ⟨ad0, hA0, hL0⟩ := sl_int Hxs (Below.refl _ _) (i := ((i : Nat) : Int)) (j := i) (by omega) (by omega)
   refine qt_v hS rfl rfl (fun W hB hS => run_indexAddr Tryz.underlying22 Tryz.sizeOf3 hS rfl rfl hA0 (by omega) (by omega)) fun a hS => qt_v hS rfl rfl (fun W hB hS => run_load_cell Tryz.isAgg3 hS rfl (hL0 _ hS.below)) fun a hS => qt_v hS rfl rfl (fun W hB hS => run_move hS rfl) fun a hS => qt_v hS rfl rfl (fun W hB hS => run_move hS rfl) fun a hS => ?_
   obtain ⟨ad1, hA1, hL1⟩ := sl_int Hys (Below.refl _ _) (i := ((i : Nat) : Int)) (j := i) (by omega) (by omega)
   refine qt_v hS rfl rfl (fun W hB hS => run_indexAddr Tryz.underlying22 Tryz.sizeOf3 hS rfl rfl hA1 (by omega) (by omega)) fun a hS => qt_v hS rfl rfl (fun W hB hS => run_load_cell Tryz.isAgg3 hS rfl (hL1 _ hS.below)) fun a hS => qt_v hS rfl rfl (fun W hB hS => run_bin hS rfl rfl rfl) fun a hS => qt_nil hS fun W hS => ?_
   refine st_cond hS rfl (fun hc3 => ?_) (fun hc3 => ?_)
   ·
    try simp only [ty] at hc3
    refine wpIn_seq ?_
    refine wpIn_region_lit ?_
    refine st_v hS rfl rfl (run_assign hS rfl) fun a hS => wl_nil ?_
    refine wpIn_ret ?_
    repeat (first | refine q_ret ?_ | refine q_block_ret ?_)
    refine hS.done (res1 (fn := Tryz.f45) (r1 := .tmp 4) rfl (rv_tmp hS rfl)) ?_
    have h : ¬ xs = ys := fun e => hc3 (by rw [e])
    rw [decide_eq_false h]
   ·
    try simp only [ty] at hc3
    refine wpIn_skip ?_
    refine wpIn_region_lit ?_
    refine st_v hS rfl rfl (run_move hS rfl) fun a hS => st_v hS rfl rfl (run_add (t := ((i + 1 : Nat) : Int)) hS rfl rfl (by omega) (by omega) (by omega)) fun a hS => st_v hS rfl rfl (run_assign hS rfl) fun a hS => wl_nil ?_
    refine ⟨i + 1, ⟨⟨by omega, fun j hj => ?_⟩, by omega⟩, (hS.sub (Sub.cons rfl (Sub.cons rfl (Sub.cons rfl Sub.nil))))⟩
    by_cases e : j = i
    · subst e; exact hc3
    · exact hg j (by omega)
  ·
   try simp only [ty] at hc2
   refine wpIn_exit ?_
   refine wpIn_seq ?_
   refine wpIn_region_lit ?_
   refine st_v hS rfl rfl (run_assign hS rfl) fun a hS => wl_nil ?_
   refine wpIn_ret ?_
   repeat (first | refine q_ret ?_ | refine q_block_ret ?_)
   refine hS.done (res1 (fn := Tryz.f45) (r1 := .tmp 4) rfl (rv_tmp hS rfl)) ?_
   rw [decide_eq_true (ints_eq (by omega) (fun j hj => hg j (by omega)))]
theorem poses_eq {xs ys : List Pose} (h : xs.length = ys.length) (hg : ∀ j, j < xs.length → poseAt xs j = poseAt ys j) : xs = ys :=
  List.ext_getElem h fun j h1 h2 => by have := hg j h1; simpa [poseAt, List.getD_eq_getElem?_getD, h1, h2] using this
theorem pose_ext {p q : Pose} (h1 : p.x = q.x) (h2 : p.speed = q.speed) (h3 : p.height = q.height) : p = q := by cases p; cases q; simp_all
set_option maxHeartbeats 2000000 in
set_option maxRecDepth 100000 in
theorem law03_samePoses  (sxs : SV) (xs : List Pose) (sys : SV) (ys : List Pose) {w : World} {Fxs : Nat → Prop} (hxs : Sl kPose Fxs w sxs xs) {Fys : Nat → Prop} (hys : Sl kPose Fys w sys ys)  : Ret Tryz.prog 49 [.slice sxs.a xs.length sxs.c, .slice sys.a ys.length sys.c] w (fun v _ => v = .bool (decide (xs = ys))) := by
 refine ret_start (n := 26) Tryz.func49 rfl rfl rfl (fun a hS => ?_)
 have Hxs : ∀ W, Below w.heap.size w W → Sl kPose Fxs W sxs xs := fun W hb => hxs.at_ hb
 have hmxs := hxs.len
 have Hys : ∀ W, Below w.heap.size w W → Sl kPose Fys W sys ys := fun W hb => hys.at_ hb
 have hmys := hys.len
 refine wpIn_seq ?_
 refine wpIn_region_lit ?_
 refine st_v hS rfl rfl (run_assign hS rfl) fun a hS => wl_nil ?_
 refine wpIn_seq ?_
 refine wpIn_seq ?_
 refine wpIn_region_lit ?_
 refine st_v hS rfl rfl (run_move hS rfl) fun a hS => st_v hS rfl rfl (run_len_slice Tryz.underlying45 hS rfl) fun a hS => st_v hS rfl rfl (run_move hS rfl) fun a hS => st_v hS rfl rfl (run_len_slice Tryz.underlying45 hS rfl) fun a hS => st_v hS rfl rfl (run_bin hS rfl rfl rfl) fun a hS => wl_nil ?_
 refine st_cond hS rfl (fun hc1 => ?_) (fun hc1 => ?_)
 ·
  try simp only [ty] at hc1
  refine wpIn_seq ?_
  refine wpIn_region_lit ?_
  refine st_v hS rfl rfl (run_assign hS rfl) fun a hS => wl_nil ?_
  refine wpIn_ret ?_
  repeat (first | refine q_ret ?_ | refine q_block_ret ?_)
  refine hS.done (res1 (fn := Tryz.f49) (r1 := .tmp 4) rfl (rv_tmp hS rfl)) ?_
  have h : ¬ xs = ys := fun e => by subst e; omega
  rw [decide_eq_false h]
 ·
  try simp only [ty] at hc1
  refine wpIn_skip ?_
  refine wpIn_seq ?_
  refine wpIn_seq ?_
  refine wpIn_region_lit ?_
  refine st_v hS rfl rfl (run_assign hS rfl) fun a hS => wl_nil ?_
  refine wpIn_block ?_
  refine st_loop2 (α := Nat) (fun i => [(5, .int .i64 (((i : Nat) : Int)))]) [(0, _), (1, _)] (fun l _ => l) (fun i => i ≤ xs.length ∧ ∀ j, j < i → poseAt xs j = poseAt ys j) (fun i => xs.length - i) (0) hS (Sub.cons rfl (Sub.cons rfl (Sub.cons rfl Sub.nil))) rfl (⟨Nat.zero_le _, fun j hj => absurd hj (Nat.not_lt_zero j)⟩) (fun i W a hφ hS => ?_)
  dsimp only [setB, List.cons_append, List.nil_append, List.take] at hS
  obtain ⟨hi, hg⟩ := hφ
  refine wpIn_seq ?_
  refine wpIn_seq ?_
  refine wpIn_region_lit ?_
  refine st_v hS rfl rfl (run_move hS rfl) fun a hS => st_v hS rfl rfl (run_move hS rfl) fun a hS => st_v hS rfl rfl (run_len_slice Tryz.underlying45 hS rfl) fun a hS => st_v hS rfl rfl (run_bin hS rfl rfl rfl) fun a hS => wl_nil ?_
  refine st_cond hS rfl (fun hc2 => ?_) (fun hc2 => ?_)
  ·
   try simp only [ty] at hc2
   refine wpIn_skip ?_
   refine wpIn_seq ?_
   refine wpIn_block ?_
   refine wpIn_seq ?_
   refine st_draw (by kernel_rfl) (by kernel_rfl) hS ?_
   refine qt_v hS rfl rfl (fun W hB hS => run_move hS rfl) fun a hS => qt_v hS rfl rfl (fun W hB hS => run_move hS rfl) fun a hS => ?_
   obtain ⟨ad0, hA0, hL0⟩ := sl_of Hxs (Below.refl _ _) poseD (i := ((i : Nat) : Int)) (j := i) (by omega) (by omega)
   refine qt_v hS rfl rfl (fun W hB hS => run_indexAddr Tryz.underlying45 Tryz.sizeOf38 hS rfl rfl hA0 (by omega) (by omega)) fun a hS => qt_v hS rfl rfl (fun W hB hS => run_load_ext Tryz.isAgg38 Tryz.sizeOf38 hS rfl rfl (hL0 _ hS.below)) fun a hS => qt_v hS rfl rfl (fun W hB hS => run_move hS rfl) fun a hS => qt_v hS rfl rfl (fun W hB hS => run_move hS rfl) fun a hS => ?_
   obtain ⟨ad1, hA1, hL1⟩ := sl_of Hys (Below.refl _ _) poseD (i := ((i : Nat) : Int)) (j := i) (by omega) (by omega)
   refine qt_v hS rfl rfl (fun W hB hS => run_indexAddr Tryz.underlying45 Tryz.sizeOf38 hS rfl rfl hA1 (by omega) (by omega)) fun a hS => qt_v hS rfl rfl (fun W hB hS => run_load_ext Tryz.isAgg38 Tryz.sizeOf38 hS rfl rfl (hL1 _ hS.below)) fun a hS => qt_v hS rfl rfl (fun W hB hS => run_test hS rfl rfl (fun W => eqN38 _ _ _ _ _ _ _ _ W)) fun a hS => qt_nil hS fun W hS => ?_
   refine st_cond hS rfl (fun hc3 => ?_) (fun hc3 => ?_)
   ·
    try simp only [ty] at hc3
    refine wpIn_seq ?_
    refine wpIn_region_lit ?_
    refine st_v hS rfl rfl (run_assign hS rfl) fun a hS => wl_nil ?_
    refine wpIn_ret ?_
    repeat (first | refine q_ret ?_ | refine q_block_ret ?_)
    refine hS.done (res1 (fn := Tryz.f49) (r1 := .tmp 4) rfl (rv_tmp hS rfl)) ?_
    have h : ¬ xs = ys := fun e => by subst e; simp at hc3
    rw [decide_eq_false h]
   ·
    try simp only [ty] at hc3
    refine wpIn_skip ?_
    refine wpIn_region_lit ?_
    refine st_v hS rfl rfl (run_move hS rfl) fun a hS => st_v hS rfl rfl (run_add (t := ((i + 1 : Nat) : Int)) hS rfl rfl (by omega) (by omega) (by omega)) fun a hS => st_v hS rfl rfl (run_assign hS rfl) fun a hS => wl_nil ?_
    have h3 : ((poseAt xs i).x == (poseAt ys i).x && ((poseAt xs i).speed == (poseAt ys i).speed && (poseAt xs i).height == (poseAt ys i).height)) = true := hc3
    simp only [Bool.and_eq_true, beq_iff_eq] at h3
    refine ⟨i + 1, ⟨⟨by omega, fun j hj => ?_⟩, by omega⟩, (hS.sub (Sub.cons rfl (Sub.cons rfl (Sub.cons rfl Sub.nil))))⟩
    by_cases e : j = i
    · subst e; exact pose_ext h3.1 h3.2.1 h3.2.2
    · exact hg j (by omega)
  ·
   try simp only [ty] at hc2
   refine wpIn_exit ?_
   refine wpIn_seq ?_
   refine wpIn_region_lit ?_
   refine st_v hS rfl rfl (run_assign hS rfl) fun a hS => wl_nil ?_
   refine wpIn_ret ?_
   repeat (first | refine q_ret ?_ | refine q_block_ret ?_)
   refine hS.done (res1 (fn := Tryz.f49) (r1 := .tmp 4) rfl (rv_tmp hS rfl)) ?_
   rw [decide_eq_true (poses_eq (by omega) (fun j hj => hg j (by omega)))]
end Go.Proofs.YtdnodlgebpnfoaaGreat
namespace Go.Proofs.YtdnodlgebpnfoaaGreat
open Go Go.RowKit Go.Shelf Sw
def wakeAt (r : Rot) (c : Cr) (a : Air) (v d : Int) : Bool := if 0 < d ∧ v * c.unit ≤ lastOf r.low.X then wakeV r a (one (v * c.unit)) (one (d * c.step)) else false
def wakeR (r : Rot) (c : Cr) (a : Air) (v : Int) (n : Nat) : List Bool := (List.range n).map fun (d : Nat) => wakeAt r c a v (d : Int)
def wakesOf (r : Rot) (c : Cr) (a : Air) (k : Nat) : List (List Bool) := (List.range k).map fun (v : Nat) => wakeR r c a (v : Int) (c.drop.toNat + 1)
def siteOf (r : Rot) (c : Cr) (a : Air) (f : Fld) : Site := ⟨c, f, ratesOf r c a false (c.top.toNat + 1), ratesOf r c a true (c.top.toNat + 1), wakesOf r c a (c.top.toNat + 1)⟩
theorem wakeR_next (r : Rot) (c : Cr) (a : Air) (v : Int) (n : Nat) : wakeR r c a v (n + 1) = wakeR r c a v n ++ [wakeAt r c a v (n : Int)] := by unfold wakeR; rw [List.range_succ, List.map_append]; rfl
theorem wakesOf_next (r : Rot) (c : Cr) (a : Air) (k : Nat) : wakesOf r c a (k + 1) = wakesOf r c a k ++ [wakeR r c a (k : Int) (c.drop.toNat + 1)] := by unfold wakesOf; rw [List.range_succ, List.map_append]; rfl
theorem wakeR_len (r : Rot) (c : Cr) (a : Air) (v : Int) (n : Nat) : (wakeR r c a v n).length = n := by unfold wakeR; simp
theorem wakesOf_len (r : Rot) (c : Cr) (a : Air) (k : Nat) : (wakesOf r c a k).length = k := by unfold wakesOf; simp
theorem rate_in {r : Rot} {c : Cr} {a : Air} (hE : airE r c a = 0) (s : Bool) {v : Int} (h0 : 0 ≤ v) (h1 : v ≤ c.top) : -1000000000 ≤ rateAt r c a s v ∧ rateAt r c a s v ≤ 1000000000 := by
  obtain ⟨_, hrok, haok, hp, hon, _⟩ := airE_ok hE
  have hRp := rot_p hrok
  obtain ⟨hlo, hvu⟩ := level_on hE h0 h1
  have hli := levelOf_in hrok haok hlo
  have hpw := pow_in hE s
  have hcl := hRp.climb; have hst := hp.step
  have hden := prod_in (a := r.climb) (b := c.step) (A := 1000) (B := 1000) (by omega) (by omega) (by omega) (by omega)
  have hden1 : 1 * 1 ≤ r.climb * c.step := Int.mul_le_mul hcl.1 hst.1 (by decide) (by omega)
  have := fl_abs (B := 100000000) (n := (powOf r c a s).lo - (levelOf r a (one (v * c.unit))).hi) (d := r.climb * c.step) (by omega) (by omega) (by omega)
  unfold rateAt; omega
theorem ratesOf_ix {r : Rot} {c : Cr} {a : Air} {s : Bool} {k v : Nat} (h : v < k) : ix (ratesOf r c a s k) v = rateAt r c a s (v : Int) := by
  unfold ix ratesOf
  simp [List.getD_eq_getElem?_getD, h]
theorem siteOf_p {r : Rot} {c : Cr} {a : Air} {f : Fld} (hE : airE r c a = 0) : SiteP (siteOf r c a f) := by
  obtain ⟨_, hrok, haok, hp, hon, _⟩ := airE_ok hE
  refine ⟨hp, rates_len _ _ _ _ _, rates_len _ _ _ _ _, wakesOf_len _ _ _ _, fun y hy => ?_, fun e v => ?_⟩
  · unfold siteOf wakesOf at hy
    obtain ⟨i, _, rfl⟩ := List.mem_map.1 hy
    exact wakeR_len _ _ _ _ _
  · have key : ∀ s, -1000000000 ≤ ix (ratesOf r c a s (c.top.toNat + 1)) v ∧ ix (ratesOf r c a s (c.top.toNat + 1)) v ≤ 1000000000 := fun s => by
      by_cases h : v < c.top.toNat + 1
      · rw [ratesOf_ix h]; exact rate_in hE s (by omega) (by have := hp.top; omega)
      · unfold ix
        rw [List.getD_eq_getElem?_getD, List.getElem?_eq_none (by rw [rates_len]; omega)]
        exact ⟨by decide, by decide⟩
    cases e
    · exact key false
    · exact key true
structure CrR (F : Nat → Prop) (W : World) (X : CV) (S : Site) : Prop where
  cells : CellsAt W X.p (crxC X S)
  blk : F X.p.block
  all : Sl kInt F W X.s0 S.all
  single : Sl kInt F W X.s1 S.single
  wake : Sl kWk F W X.sw X.ys
  rows : ∀ y ∈ X.ys, Sl kBool F W y.1 y.2
  same : X.ys.map Prod.snd = S.wake
def fldD : Fld := ⟨0, 0, 0, []⟩
theorem CrR.site {F F' : Nat → Prop} {W : World} {X : CV} {r : Rot} {c : Cr} {a : Air} {f : Fld} {sf : SV} (h : CrR F W X (siteOf r c a fldD)) (hf : Sl kHind F' W sf f.hinds) (hF : ∀ k, F k → F' k) : SiteR F' W { X with sf := sf } (siteOf r c a f) :=
  ⟨h.cells, hF _ h.blk, h.all.wide (fun k hk _ => hF k hk) (fun _ _ => by decide), h.single.wide (fun k hk _ => hF k hk) (fun _ _ => by decide), h.wake.wide (fun k hk _ => hF k hk) (fun _ _ => by decide), fun y hy => (h.rows y hy).wide (fun k hk _ => hF k hk) (fun _ _ => by decide), hf, h.same⟩
theorem CrR.keep {F : Nat → Prop} {W W' : World} {X : CV} {S : Site} (h : CrR F W X S) (hm : ∀ k, F k → k < W.heap.size → W'.heap[k]? = W.heap[k]?) : CrR F W' X S :=
  ⟨fun i u hu => by
    have h1 := h.cells i u hu
    have h2 := cell_lt h1
    rw [add_block] at h2
    exact cell_same h1 (by rw [add_block]; exact hm _ h.blk h2), h.blk, h.all.move hm, h.single.move hm, h.wake.move hm, fun y hy => (h.rows y hy).move hm, h.same⟩
theorem airE_21 {r : Rot} {c : Cr} {a : Air} (h : craftE r c = 0) (hr : rotOk r = true) (ha : airOk a = false) : airE r c a = 21 := by unfold airE; rw [if_pos h, errC_air hr ha]
theorem airE_of {r : Rot} {c : Cr} {a : Air} (h : craftE r c = 0) (hr : rotOk r = true) (ha : airOk a = true) : airE r c a = if onAir r a then 0 else 1 := by unfold airE; rw [if_pos h, errC_if hr ha]
def airL (a : Air) : List Span := [a.weight, a.temp, a.height, a.wind]
theorem airL_ok (a : Air) : (∀ j, j < 4 → (spanAt (airL a) j).ok = true) → airOk a = true := fun h => by
  have h0 := h 0 (by decide); have h1 := h 1 (by decide); have h2 := h 2 (by decide); have h3 := h 3 (by decide)
  simp only [spanAt, airL, List.getD_eq_getElem?_getD, List.getElem?_cons_zero, List.getElem?_cons_succ, Option.getD_some] at h0 h1 h2 h3
  rw [airOk_iff]; exact ⟨h0, h1, h2, h3⟩
theorem airL_bad (a : Air) {j : Nat} (hj : j < 4) (h : (spanAt (airL a) j).ok = false) : airOk a = false := by
  cases ha : airOk a with
  | false => rfl
  | true =>
    rw [airOk_iff] at ha
    have : j = 0 ∨ j = 1 ∨ j = 2 ∨ j = 3 := by omega
    rcases this with rfl | rfl | rfl | rfl <;> simp only [spanAt, airL, List.getD_eq_getElem?_getD, List.getElem?_cons_zero, List.getElem?_cons_succ, Option.getD_some] at h
    · rw [ha.1] at h; cases h
    · rw [ha.2.1] at h; cases h
    · rw [ha.2.2.1] at h; cases h
    · rw [ha.2.2.2] at h; cases h
theorem bd_craft (V : RV) (r : Rot) (c : Cr) (W : World) : (Instr.build 143 [(0, Value.agg (craftC V r c).toArray)].toArray).run Tryz.prog W = .ok (.agg (craftC V r c ++ [Value.slice none 0 0, Value.slice none 0 0, Value.slice none 0 0]).toArray) W := by kernel_rfl
abbrev eBool (x : Bool) : List Value := [.bool x]
set_option maxHeartbeats 16000000 in
set_option maxRecDepth 100000 in
theorem engine_newCraft (Vr : RV) (r : Rot) (c : Cr) (A : Air) {w : World} {Fr : Nat → Prop} (hr : RotR Fr w Vr r) : Ret Tryz.prog 96 [.agg (craftC Vr r c).toArray, .agg (airC A).toArray] w
    (fun v W' => (airE r c A ≠ 0 → v = .tuple #[.pointer none, .int .i64 (airE r c A)]) ∧ (airE r c A = 0 → ∃ X : CV, v = .tuple #[.pointer (some X.p), .int .i64 0] ∧ CrR (fun k => w.heap.size ≤ k) W' X (siteOf r c A fldD))) := by
 refine ret_start (n := 213) Tryz.func96 rfl rfl rfl (fun a hS => ?_)
 have Hr : ∀ W, Below w.heap.size w W → RotR Fr W Vr r := fun W hb => hr.move (keep_of hb)
 have hal : (airL A).length = 4 := rfl
 refine wpIn_seq ?_
 refine wpIn_region_lit ?_
 refine st_box_agg hS rfl rfl rfl fun W a b0 hS => st_box_agg hS rfl rfl rfl fun W a b1 hS => st_v hS rfl rfl (run_assign hS rfl) fun a hS => st_v hS rfl rfl (run_assign hS rfl) fun a hS => wl_nil ?_
 refine wpIn_seq ?_
 refine wpIn_seq ?_
 refine wpIn_region_lit ?_
 refine st_v hS rfl rfl (run_load_all (i := 1) Tryz.isAgg29 Tryz.sizeOf29 hS rfl rfl rfl) fun a hS => st_call (engine_checkCraft Vr r c (Hr _ hS.below)) Tryz.call120 hS rfl rfl rfl fun v W a hR hB hlt hS => ?_
 subst hR
 refine st_v hS rfl rfl (run_assign hS rfl) fun a hS => wl_nil ?_
 refine wpIn_seq ?_
 refine wpIn_region_lit ?_
 refine st_v hS rfl rfl (run_move hS rfl) fun a hS => st_v hS rfl rfl (run_bin hS rfl rfl rfl) fun a hS => wl_nil ?_
 refine st_cond hS rfl (fun hc1 => ?_) (fun hc1 => ?_)
 ·
  try simp only [ty] at hc1
  refine wpIn_seq ?_
  refine wpIn_region_lit ?_
  refine st_v hS rfl rfl (run_move hS rfl) fun a hS => st_v hS rfl rfl (run_assign hS rfl) fun a hS => st_v hS rfl rfl (run_assign hS rfl) fun a hS => wl_nil ?_
  refine wpIn_ret ?_
  repeat (first | refine q_ret ?_ | refine q_block_ret ?_)
  refine hS.done (res2 (fn := Tryz.f96) (r1 := .tmp 4) (r2 := .tmp 5) rfl (rv_tmp hS rfl) (rv_tmp hS rfl)) ?_
  have hE : airE r c A = craftE r c := by unfold airE; rw [if_neg hc1]
  exact ⟨fun _ => by rw [hE], fun h => absurd (hE ▸ h) hc1⟩
 ·
  try simp only [ty] at hc1
  obtain ⟨hrok, hp, hlx, hl00⟩ := craftE_ok hc1
  have hRp := rot_p hrok
  obtain ⟨a00, a09⟩ : 0 < r.power.X.length ∧ r.power.X.length ≤ 12 := by have h := (tab_axes hRp.power.1).1; exact ⟨by have := h.two; omega, h.most⟩
  obtain ⟨a10, a19⟩ : 0 < r.power.Y.length ∧ r.power.Y.length ≤ 12 := by have h := (tab_axes hRp.power.1).2.1; exact ⟨by have := h.two; omega, h.most⟩
  obtain ⟨a20, a29⟩ : 0 < r.level.Y.length ∧ r.level.Y.length ≤ 12 := by have h := (tab_axes hRp.level.1).2.1; exact ⟨by have := h.two; omega, h.most⟩
  obtain ⟨a30, a39⟩ : 0 < r.low.Y.length ∧ r.low.Y.length ≤ 12 := by have h := (tab_axes hRp.low.1).2.1; exact ⟨by have := h.two; omega, h.most⟩
  obtain ⟨a40, a49⟩ : 0 < r.low.X.length ∧ r.low.X.length ≤ 12 := by have h := (tab_axes hRp.low.1).1; exact ⟨by have := h.two; omega, h.most⟩
  refine wpIn_skip ?_
  refine wpIn_seq ?_
  refine wpIn_seq ?_
  refine wpIn_region_lit ?_
  refine st_v hS rfl rfl (run_fieldAddr fa33_0 hS rfl) fun a hS => st_v hS rfl rfl (run_load_agg (i := 0) (vs := [_, _]) Tryz.isAgg31 Tryz.sizeOf31 hS rfl rfl rfl ⟨rfl, rfl, trivial⟩) fun a hS => st_v hS rfl rfl (run_fieldAddr fa33_1 hS rfl) fun a hS => st_v hS rfl rfl (run_load_agg (i := 0) (vs := [_, _]) Tryz.isAgg31 Tryz.sizeOf31 hS rfl rfl rfl ⟨rfl, rfl, trivial⟩) fun a hS => st_v hS rfl rfl (run_fieldAddr fa33_2 hS rfl) fun a hS => st_v hS rfl rfl (run_load_agg (i := 0) (vs := [_, _]) Tryz.isAgg31 Tryz.sizeOf31 hS rfl rfl rfl ⟨rfl, rfl, trivial⟩) fun a hS => st_v hS rfl rfl (run_fieldAddr fa33_3 hS rfl) fun a hS => st_v hS rfl rfl (run_load_agg (i := 0) (vs := [_, _]) Tryz.isAgg31 Tryz.sizeOf31 hS rfl rfl rfl ⟨rfl, rfl, trivial⟩) fun a hS => st_buildSlice (pv := [(0, .agg #[.int .i64 _, .int .i64 _]), (1, .agg #[.int .i64 _, .int .i64 _]), (2, .agg #[.int .i64 _, .int .i64 _]), (3, .agg #[.int .i64 _, .int .i64 _])]) (fun W => bs61_4_0_1_2_3 _ _ _ _ _ _ _ _ W) hS rfl rfl rfl fun W a b2 hS => ?_
  have hS := hS.freeze (enc := spanC) (nn := 2) (bb := 16) (hb := by decide) (hl := fun _ => rfl) (airL A) rfl (Nat.le_of_ble_eq_true rfl)
  refine st_v hS rfl rfl (run_len_slice Tryz.underlying61 hS rfl) fun a hS => st_v hS rfl rfl (run_move hS rfl) fun a hS => wl_nil ?_
  refine wpIn_block ?_
  refine st_loop2 (α := Nat) (fun i => [(40, .int .i64 (((i : Nat) : Int)))]) [(0, _), (1, _), (2, _), (3, _), (6, _), (38, _), (39, _)] (fun l _ => l) (fun i => i ≤ 4 ∧ ∀ j, j < i → (spanAt (airL A) j).ok = true) (fun i => 4 - i) (0) hS (Sub.cons rfl (Sub.cons rfl (Sub.cons rfl (Sub.cons rfl (Sub.cons rfl (Sub.cons rfl (Sub.cons rfl (Sub.cons rfl Sub.nil)))))))) rfl (⟨Nat.zero_le _, fun j hj => absurd hj (Nat.not_lt_zero j)⟩) (fun i W a hφ hS => ?_)
  dsimp only [setB, List.cons_append, List.nil_append, List.take] at hS
  obtain ⟨hi, hg⟩ := hφ
  refine wpIn_seq ?_
  refine wpIn_region_lit ?_
  refine st_v hS rfl rfl (run_bin hS rfl rfl rfl) fun a hS => wl_nil ?_
  refine wpIn_seq ?_
  refine st_cond hS rfl (fun hc2 => ?_) (fun hc2 => ?_)
  ·
   try simp only [ty] at hc2
   refine wpIn_skip ?_
   refine wpIn_seq ?_
   refine wpIn_block ?_
   refine wpIn_seq ?_
   refine wpIn_region_lit ?_
   obtain ⟨ad0, hA0, hL0⟩ := sl_span (fun _ h => h) hS.now.2 (i := ((i : Nat) : Int)) (j := i) (by omega) (by omega)
   refine st_v hS rfl rfl (run_indexAddr Tryz.underlying61 Tryz.sizeOf31 hS rfl rfl hA0 (by omega) (by omega)) fun a hS => st_v hS rfl rfl (run_load_ext Tryz.isAgg31 Tryz.sizeOf31 hS rfl rfl (hL0 _ hS.now.2)) fun a hS => st_alloc_agg Tryz.zeroValue31 hS rfl rfl fun W a b3 hS => st_store (i := 0) Tryz.sizeOf31 hS rfl rfl rfl rfl rfl rfl rfl rfl rfl fun W a hS => wl_nil ?_
   try dsimp only [setB] at hS
   refine wpIn_seq ?_
   refine wpIn_region_lit ?_
   refine st_v hS rfl rfl (run_load_all (i := 0) Tryz.isAgg31 Tryz.sizeOf31 hS rfl rfl rfl) fun a hS => st_buildSlice (pv := [(0, .agg #[.int .i64 _, .int .i64 _])]) (fun W => bs62_1_0 _ _ W) hS rfl rfl rfl fun W a b4 hS => st_call (spans_Check (⟨some ⟨b4, 0, none⟩, 1⟩ : SV) [(spanAt (airL A) (i))] (own_sl_of (dk := kSpan) (enc := spanC) (xs := [(spanAt (airL A) (i))]) (fun _ _ _ => rfl) hS (i := 0) rfl (Nat.le_of_ble_eq_true rfl))) Tryz.call159 hS rfl rfl rfl fun v W a hR hB hlt hS => ?_
   subst hR
   refine st_v hS rfl rfl (run_bin hS rfl rfl rfl) fun a hS => wl_nil ?_
   refine st_cond hS rfl (fun hc3 => ?_) (fun hc3 => ?_)
   ·
    try simp only [ty] at hc3
    refine wpIn_seq ?_
    refine wpIn_region_lit ?_
    refine st_v hS rfl rfl (run_assign hS rfl) fun a hS => st_v hS rfl rfl (run_assign hS rfl) fun a hS => wl_nil ?_
    refine wpIn_ret ?_
    repeat (first | refine q_ret ?_ | refine q_block_ret ?_)
    refine hS.done (res2 (fn := Tryz.f96) (r1 := .tmp 4) (r2 := .tmp 5) rfl (rv_tmp hS rfl) (rv_tmp hS rfl)) ?_
    have hb : (spanAt (airL A) i).ok = false := by
     cases h : (spanAt (airL A) i).ok with
     | false => rfl
     | true => exact absurd (by simp [within, h]) hc3
    have hE : airE r c A = 21 := airE_21 hc1 hrok (airL_bad A (by omega) hb)
    exact ⟨fun _ => by rw [hE], fun h => by rw [hE] at h; cases h⟩
   ·
    try simp only [ty] at hc3
    have hgi : (spanAt (airL A) i).ok = true := by
     cases h : (spanAt (airL A) i).ok with
     | true => rfl
     | false => simp [within, h] at hc3
    refine wpIn_skip ?_
    refine wpIn_region_lit ?_
    refine st_v hS rfl rfl (run_add (t := ((i + 1 : Nat) : Int)) hS rfl rfl (by omega) (by omega) (by omega)) fun a hS => st_v hS rfl rfl (run_move hS rfl) fun a hS => wl_nil ?_
    refine ⟨i + 1, ⟨⟨by omega, fun j hj => ?_⟩, by omega⟩, (hS.sub (Sub.cons rfl (Sub.cons rfl (Sub.cons rfl (Sub.cons rfl (Sub.cons rfl (Sub.cons rfl (Sub.cons rfl (Sub.cons rfl Sub.nil))))))))).drop (List.Sublist.cons _ (List.Sublist.cons _ (List.Sublist.refl _)))⟩
    by_cases e : j = i
    · subst e; exact hgi
    · exact hg j (by omega)
  ·
   try simp only [ty] at hc2
   have haok := airL_ok A fun j hj => hg j (by omega)
   have hak := haok
   rw [airOk_iff] at hak
   have q1 := (Span.ok_iff A.temp).1 hak.2.1; have q2 := (Span.ok_iff A.height).1 hak.2.2.1; have q3 := (Span.ok_iff A.weight).1 hak.1
   have hb1 := lies_ax (l := r.power.X) q1.2.1; have hb2 := lies_ax (l := r.power.Y) q2.2.1; have hb3 := lies_ax (l := r.level.Y) q3.2.1; have hb4 := lies_ax (l := r.low.Y) q3.2.1
   refine wpIn_exit ?_
   refine wpIn_seq ?_
   refine wpIn_region_lit ?_
   refine st_v hS rfl rfl (run_fieldAddr fa29_0 hS rfl) fun a hS => st_v hS rfl rfl (run_load_agg (i := 1) (vs := [_, _, _, _, _, _, _, _, _, _, _, _, _, _, _, _, _, _, _, _, _, _, _, _, _, _]) Tryz.isAgg27 Tryz.sizeOf27 hS rfl rfl rfl ⟨rfl, rfl, rfl, rfl, rfl, rfl, rfl, rfl, rfl, rfl, rfl, rfl, rfl, rfl, rfl, rfl, rfl, rfl, rfl, rfl, rfl, rfl, rfl, rfl, rfl, rfl, trivial⟩) fun a hS => st_alloc_agg Tryz.zeroValue27 hS rfl rfl fun W a b5 hS => st_store (cs' := [.slice Vr.hover.x.a r.hover.X.length Vr.hover.x.c, .slice Vr.hover.y.a r.hover.Y.length Vr.hover.y.c, .slice Vr.hover.v.a r.hover.V.length Vr.hover.v.c, .slice Vr.ground.x.a r.ground.X.length Vr.ground.x.c, .slice Vr.ground.y.a r.ground.Y.length Vr.ground.y.c, .slice Vr.ground.v.a r.ground.V.length Vr.ground.v.c, .slice Vr.level.x.a r.level.X.length Vr.level.x.c, .slice Vr.level.y.a r.level.Y.length Vr.level.y.c, .slice Vr.level.v.a r.level.V.length Vr.level.v.c, .slice Vr.power.x.a r.power.X.length Vr.power.x.c, .slice Vr.power.y.a r.power.Y.length Vr.power.y.c, .slice Vr.power.v.a r.power.V.length Vr.power.v.c, .slice Vr.never.x.a r.never.X.length Vr.never.x.c, .slice Vr.never.y.a r.never.Y.length Vr.never.y.c, .slice Vr.never.v.a r.never.V.length Vr.never.v.c, .slice Vr.low.x.a r.low.X.length Vr.low.x.c, .slice Vr.low.y.a r.low.Y.length Vr.low.y.c, .slice Vr.low.v.a r.low.V.length Vr.low.v.c, .slice Vr.high.x.a r.high.X.length Vr.high.x.c, .slice Vr.high.y.a r.high.Y.length Vr.high.y.c, .slice Vr.high.v.a r.high.V.length Vr.high.v.c, .slice Vr.glide.x.a r.glide.X.length Vr.glide.x.c, .slice Vr.glide.y.a r.glide.Y.length Vr.glide.y.c, .slice Vr.glide.v.a r.glide.V.length Vr.glide.v.c, .int .i64 r.climb, .int .i64 r.burn]) (i := 0) Tryz.sizeOf27 hS rfl rfl rfl rfl rfl rfl rfl rfl rfl fun W a hS => wl_nil ?_
   try dsimp only [setB] at hS
   refine wpIn_seq ?_
   refine wpIn_seq ?_
   have hS := hS.sub (κ' := [(0, _), (1, _), (2, _), (3, _), (6, _), (38, _), (39, _), (40, _), (9, _)]) (Sub.cons rfl (Sub.cons rfl (Sub.cons rfl (Sub.cons rfl (Sub.cons rfl (Sub.cons rfl (Sub.cons rfl (Sub.cons rfl (Sub.cons rfl Sub.nil)))))))))
   refine st_cut 84 (.bool (!(onAir r A))) hS ?_ (fun W a hS => ?_)
   ·
    refine wpIn_region_lit ?_
    refine st_v hS rfl rfl (run_fieldAddr fa27_3 hS rfl) fun a hS => st_v hS rfl rfl (run_fieldAddr fa25_0 hS rfl) fun a hS => st_v hS rfl rfl (run_load_one (i := 0) Tryz.isAgg22 hS rfl rfl rfl) fun a hS => st_v hS rfl rfl (run_fieldAddr fa33_1 hS rfl) fun a hS => st_v hS rfl rfl (run_load_agg (i := 1) (vs := [_, _]) Tryz.isAgg31 Tryz.sizeOf31 hS rfl rfl rfl ⟨rfl, rfl, trivial⟩) fun a hS => st_call (engine_lies Vr.power.x r.power.X A.temp ((fun W hC => ((fun W hC => (Hr W hC).power) W hC).1) _ hS.below) (by assumption) (by assumption)) Tryz.call167 hS rfl rfl rfl fun v W a hR hB hlt hS => ?_
    subst hR
    refine st_v hS rfl rfl (run_not hS rfl) fun a hS => st_v hS rfl rfl (run_move hS rfl) fun a hS => ?_
    refine st_split (d := 58) hS rfl (fun hc4 hS => ?_) (fun hc4 hS => ?_)
    ·
     try simp only [ty] at hc4
     refine st_skip hS (hS.unwanted rfl rfl rfl rfl) rfl fun a hS => st_skip hS (hS.unwanted rfl rfl rfl rfl) rfl fun a hS => st_skip hS (hS.unwanted rfl rfl rfl rfl) rfl fun a hS => st_skip hS (hS.unwanted rfl rfl rfl rfl) rfl fun a hS => st_skip hS (hS.unwanted rfl rfl rfl rfl) rfl fun a hS => st_skip hS (hS.unwanted rfl rfl rfl rfl) rfl fun a hS => st_skip hS (hS.unwanted rfl rfl rfl rfl) rfl fun a hS => st_v hS rfl rfl (run_pick_t hS rfl rfl) fun a hS => st_v hS rfl rfl (run_move hS rfl) fun a hS => st_skip hS (hS.unwanted rfl rfl rfl rfl) rfl fun a hS => st_skip hS (hS.unwanted rfl rfl rfl rfl) rfl fun a hS => st_skip hS (hS.unwanted rfl rfl rfl rfl) rfl fun a hS => st_skip hS (hS.unwanted rfl rfl rfl rfl) rfl fun a hS => st_skip hS (hS.unwanted rfl rfl rfl rfl) rfl fun a hS => st_skip hS (hS.unwanted rfl rfl rfl rfl) rfl fun a hS => st_skip hS (hS.unwanted rfl rfl rfl rfl) rfl fun a hS => st_v hS rfl rfl (run_pick_t hS rfl rfl) fun a hS => st_v hS rfl rfl (run_move hS rfl) fun a hS => st_skip hS (hS.unwanted rfl rfl rfl rfl) rfl fun a hS => st_skip hS (hS.unwanted rfl rfl rfl rfl) rfl fun a hS => st_skip hS (hS.unwanted rfl rfl rfl rfl) rfl fun a hS => st_skip hS (hS.unwanted rfl rfl rfl rfl) rfl fun a hS => st_skip hS (hS.unwanted rfl rfl rfl rfl) rfl fun a hS => st_skip hS (hS.unwanted rfl rfl rfl rfl) rfl fun a hS => st_skip hS (hS.unwanted rfl rfl rfl rfl) rfl fun a hS => st_v hS rfl rfl (run_pick_t hS rfl rfl) fun a hS => wl_nil ?_
     have hS := hS.sub (κ' := [(0, _), (1, _), (2, _), (3, _), (6, _), (38, _), (39, _), (40, _), (9, _), (84, _)]) (Sub.cons rfl (Sub.cons rfl (Sub.cons rfl (Sub.cons rfl (Sub.cons rfl (Sub.cons rfl (Sub.cons rfl (Sub.cons rfl (Sub.cons rfl (Sub.cons rfl Sub.nil))))))))))
     have hT : true = (!(onAir r A)) := by simp only [onAir, hb1, hb2, hb3, hb4, hc1, hc2, hc4, Bool.and_false, Bool.false_and, Bool.true_and, Bool.and_true, Bool.not_true, Bool.not_false]
     exact cut_end (hS.sub (Sub.cons (congrArg (fun b => some (Value.bool b)) hT) (Sub.cons rfl (Sub.cons rfl (Sub.cons rfl (Sub.cons rfl (Sub.cons rfl (Sub.cons rfl (Sub.cons rfl (Sub.cons rfl (Sub.cons rfl Sub.nil)))))))))))
    ·
     try simp only [ty] at hc4
     refine st_v hS (hS.wanted rfl rfl rfl) rfl (run_fieldAddr fa27_3 hS rfl) fun a hS => st_v hS (hS.wanted rfl rfl rfl) rfl (run_fieldAddr fa25_1 hS rfl) fun a hS => st_v hS (hS.wanted rfl rfl rfl) rfl (run_load_one (i := 0) Tryz.isAgg22 hS rfl rfl rfl) fun a hS => st_v hS (hS.wanted rfl rfl rfl) rfl (run_fieldAddr fa33_2 hS rfl) fun a hS => st_v hS (hS.wanted rfl rfl rfl) rfl (run_load_agg (i := 1) (vs := [_, _]) Tryz.isAgg31 Tryz.sizeOf31 hS rfl rfl rfl ⟨rfl, rfl, trivial⟩) fun a hS => st_call (engine_lies Vr.power.y r.power.Y A.height ((fun W hC => ((fun W hC => (Hr W hC).power) W hC).2.1) _ hS.below) (by assumption) (by assumption)) Tryz.call167 hS (hS.wanted rfl rfl rfl) rfl rfl fun v W a hR hB hlt hS => ?_
     subst hR
     refine st_v hS (hS.wanted rfl rfl rfl) rfl (run_not hS rfl) fun a hS => st_v hS rfl rfl (run_pick_f hS rfl rfl) fun a hS => st_v hS rfl rfl (run_move hS rfl) fun a hS => ?_
     refine st_split (d := 67) hS rfl (fun hc5 hS => ?_) (fun hc5 hS => ?_)
     ·
      try simp only [ty] at hc5
      refine st_skip hS (hS.unwanted rfl rfl rfl rfl) rfl fun a hS => st_skip hS (hS.unwanted rfl rfl rfl rfl) rfl fun a hS => st_skip hS (hS.unwanted rfl rfl rfl rfl) rfl fun a hS => st_skip hS (hS.unwanted rfl rfl rfl rfl) rfl fun a hS => st_skip hS (hS.unwanted rfl rfl rfl rfl) rfl fun a hS => st_skip hS (hS.unwanted rfl rfl rfl rfl) rfl fun a hS => st_skip hS (hS.unwanted rfl rfl rfl rfl) rfl fun a hS => st_v hS rfl rfl (run_pick_t hS rfl rfl) fun a hS => st_v hS rfl rfl (run_move hS rfl) fun a hS => st_skip hS (hS.unwanted rfl rfl rfl rfl) rfl fun a hS => st_skip hS (hS.unwanted rfl rfl rfl rfl) rfl fun a hS => st_skip hS (hS.unwanted rfl rfl rfl rfl) rfl fun a hS => st_skip hS (hS.unwanted rfl rfl rfl rfl) rfl fun a hS => st_skip hS (hS.unwanted rfl rfl rfl rfl) rfl fun a hS => st_skip hS (hS.unwanted rfl rfl rfl rfl) rfl fun a hS => st_skip hS (hS.unwanted rfl rfl rfl rfl) rfl fun a hS => st_v hS rfl rfl (run_pick_t hS rfl rfl) fun a hS => wl_nil ?_
      have hS := hS.sub (κ' := [(0, _), (1, _), (2, _), (3, _), (6, _), (38, _), (39, _), (40, _), (9, _), (84, _)]) (Sub.cons rfl (Sub.cons rfl (Sub.cons rfl (Sub.cons rfl (Sub.cons rfl (Sub.cons rfl (Sub.cons rfl (Sub.cons rfl (Sub.cons rfl (Sub.cons rfl Sub.nil))))))))))
      have hT : true = (!(onAir r A)) := by simp only [onAir, hb1, hb2, hb3, hb4, hc1, hc2, hc4, hc5, Bool.and_false, Bool.false_and, Bool.true_and, Bool.and_true, Bool.not_true, Bool.not_false]
      exact cut_end (hS.sub (Sub.cons (congrArg (fun b => some (Value.bool b)) hT) (Sub.cons rfl (Sub.cons rfl (Sub.cons rfl (Sub.cons rfl (Sub.cons rfl (Sub.cons rfl (Sub.cons rfl (Sub.cons rfl (Sub.cons rfl Sub.nil)))))))))))
     ·
      try simp only [ty] at hc5
      refine st_v hS (hS.wanted rfl rfl rfl) rfl (run_fieldAddr fa27_2 hS rfl) fun a hS => st_v hS (hS.wanted rfl rfl rfl) rfl (run_fieldAddr fa25_1 hS rfl) fun a hS => st_v hS (hS.wanted rfl rfl rfl) rfl (run_load_one (i := 0) Tryz.isAgg22 hS rfl rfl rfl) fun a hS => st_v hS (hS.wanted rfl rfl rfl) rfl (run_fieldAddr fa33_0 hS rfl) fun a hS => st_v hS (hS.wanted rfl rfl rfl) rfl (run_load_agg (i := 1) (vs := [_, _]) Tryz.isAgg31 Tryz.sizeOf31 hS rfl rfl rfl ⟨rfl, rfl, trivial⟩) fun a hS => st_call (engine_lies Vr.level.y r.level.Y A.weight ((fun W hC => ((fun W hC => (Hr W hC).level) W hC).2.1) _ hS.below) (by assumption) (by assumption)) Tryz.call167 hS (hS.wanted rfl rfl rfl) rfl rfl fun v W a hR hB hlt hS => ?_
      subst hR
      refine st_v hS (hS.wanted rfl rfl rfl) rfl (run_not hS rfl) fun a hS => st_v hS rfl rfl (run_pick_f hS rfl rfl) fun a hS => st_v hS rfl rfl (run_move hS rfl) fun a hS => ?_
      refine st_split (d := 76) hS rfl (fun hc6 hS => ?_) (fun hc6 hS => ?_)
      ·
       try simp only [ty] at hc6
       refine st_skip hS (hS.unwanted rfl rfl rfl rfl) rfl fun a hS => st_skip hS (hS.unwanted rfl rfl rfl rfl) rfl fun a hS => st_skip hS (hS.unwanted rfl rfl rfl rfl) rfl fun a hS => st_skip hS (hS.unwanted rfl rfl rfl rfl) rfl fun a hS => st_skip hS (hS.unwanted rfl rfl rfl rfl) rfl fun a hS => st_skip hS (hS.unwanted rfl rfl rfl rfl) rfl fun a hS => st_skip hS (hS.unwanted rfl rfl rfl rfl) rfl fun a hS => st_v hS rfl rfl (run_pick_t hS rfl rfl) fun a hS => wl_nil ?_
       have hS := hS.sub (κ' := [(0, _), (1, _), (2, _), (3, _), (6, _), (38, _), (39, _), (40, _), (9, _), (84, _)]) (Sub.cons rfl (Sub.cons rfl (Sub.cons rfl (Sub.cons rfl (Sub.cons rfl (Sub.cons rfl (Sub.cons rfl (Sub.cons rfl (Sub.cons rfl (Sub.cons rfl Sub.nil))))))))))
       have hT : true = (!(onAir r A)) := by simp only [onAir, hb1, hb2, hb3, hb4, hc1, hc2, hc4, hc5, hc6, Bool.and_false, Bool.false_and, Bool.true_and, Bool.and_true, Bool.not_true, Bool.not_false]
       exact cut_end (hS.sub (Sub.cons (congrArg (fun b => some (Value.bool b)) hT) (Sub.cons rfl (Sub.cons rfl (Sub.cons rfl (Sub.cons rfl (Sub.cons rfl (Sub.cons rfl (Sub.cons rfl (Sub.cons rfl (Sub.cons rfl Sub.nil)))))))))))
      ·
       try simp only [ty] at hc6
       refine st_v hS (hS.wanted rfl rfl rfl) rfl (run_fieldAddr fa27_5 hS rfl) fun a hS => st_v hS (hS.wanted rfl rfl rfl) rfl (run_fieldAddr fa25_1 hS rfl) fun a hS => st_v hS (hS.wanted rfl rfl rfl) rfl (run_load_one (i := 0) Tryz.isAgg22 hS rfl rfl rfl) fun a hS => st_v hS (hS.wanted rfl rfl rfl) rfl (run_fieldAddr fa33_0 hS rfl) fun a hS => st_v hS (hS.wanted rfl rfl rfl) rfl (run_load_agg (i := 1) (vs := [_, _]) Tryz.isAgg31 Tryz.sizeOf31 hS rfl rfl rfl ⟨rfl, rfl, trivial⟩) fun a hS => st_call (engine_lies Vr.low.y r.low.Y A.weight ((fun W hC => ((fun W hC => (Hr W hC).low) W hC).2.1) _ hS.below) (by assumption) (by assumption)) Tryz.call167 hS (hS.wanted rfl rfl rfl) rfl rfl fun v W a hR hB hlt hS => ?_
       subst hR
       refine st_v hS (hS.wanted rfl rfl rfl) rfl (run_not hS rfl) fun a hS => st_v hS rfl rfl (run_pick_f hS rfl rfl) fun a hS => wl_nil ?_
       have hS := hS.sub (κ' := [(0, _), (1, _), (2, _), (3, _), (6, _), (38, _), (39, _), (40, _), (9, _), (84, _)]) (Sub.cons rfl (Sub.cons rfl (Sub.cons rfl (Sub.cons rfl (Sub.cons rfl (Sub.cons rfl (Sub.cons rfl (Sub.cons rfl (Sub.cons rfl (Sub.cons rfl Sub.nil))))))))))
       have hT : (!(onAx r.low.Y A.weight.lo && onAx r.low.Y A.weight.hi)) = (!(onAir r A)) := by simp only [onAir, hb1, hb2, hb3, hb4, hc1, hc2, hc4, hc5, hc6, Bool.and_false, Bool.false_and, Bool.true_and, Bool.and_true, Bool.not_true, Bool.not_false]
       exact cut_end (hS.sub (Sub.cons (congrArg (fun b => some (Value.bool b)) hT) (Sub.cons rfl (Sub.cons rfl (Sub.cons rfl (Sub.cons rfl (Sub.cons rfl (Sub.cons rfl (Sub.cons rfl (Sub.cons rfl (Sub.cons rfl Sub.nil)))))))))))
   ·
    refine st_cond hS rfl (fun hc7 => ?_) (fun hc7 => ?_)
    ·
     try simp only [ty] at hc7
     refine wpIn_seq ?_
     refine wpIn_region_lit ?_
     refine st_v hS rfl rfl (run_assign hS rfl) fun a hS => st_v hS rfl rfl (run_assign hS rfl) fun a hS => wl_nil ?_
     refine wpIn_ret ?_
     repeat (first | refine q_ret ?_ | refine q_block_ret ?_)
     refine hS.done (res2 (fn := Tryz.f96) (r1 := .tmp 4) (r2 := .tmp 5) rfl (rv_tmp hS rfl) (rv_tmp hS rfl)) ?_
     have hE : airE r c A = 1 := by rw [airE_of hc1 hrok haok, hc7]; rfl
     exact ⟨fun _ => by rw [hE], fun h => by rw [hE] at h; cases h⟩
    ·
     try simp only [ty] at hc7
     have hE : airE r c A = 0 := by rw [airE_of hc1 hrok haok, hc7]; rfl
     obtain ⟨_, _, _, _, hon, _⟩ := airE_ok hE
     have hH0 : errC r A (onHas r A) = 0 := errC_of hrok haok hon
     have hhi := has_in hE
     have hpe := half_ok hhi hp.one
     have hcl := hRp.climb; have hst := hp.step; have htp := hp.top; have hun := hp.unit; have hdr := hp.drop
     have hden := prod_in (a := r.climb) (b := c.step) (A := 1000) (B := 1000) (by omega) (by omega) (by omega) (by omega)
     have hden1 : 1 * 1 ≤ r.climb * c.step := Int.mul_le_mul hcl.1 hst.1 (by decide) (by omega)
     refine wpIn_skip ?_
     refine wpIn_seq ?_
     refine wpIn_region_lit ?_
     refine st_v hS rfl rfl (run_load_all (i := 2) Tryz.isAgg29 Tryz.sizeOf29 hS rfl rfl rfl) fun a hS => ?_
     refine st_v hS rfl rfl (run_build (pv := [(0, .agg (craftC Vr r c).toArray)]) (fun W => bd_craft Vr r c W) hS rfl) fun a hS => ?_
     refine st_box_agg hS rfl rfl rfl fun W a b6 hS => st_v hS rfl rfl (run_assign hS rfl) fun a hS => wl_nil ?_
     refine wpIn_seq ?_
     refine wpIn_region_lit ?_
     refine st_v hS rfl rfl (run_load_all (i := 1) Tryz.isAgg27 Tryz.sizeOf27 hS rfl rfl rfl) fun a hS => st_v hS rfl rfl (run_load_all (i := 2) Tryz.isAgg33 Tryz.sizeOf33 hS rfl rfl rfl) fun a hS => st_call (rotor_Has Vr r A (Hr _ hS.below)) Tryz.call29 hS rfl rfl rfl fun v W a hR hB hlt hS => ?_
     rw [if_pos hH0, hH0] at hR
     subst hR
     refine st_v hS rfl rfl (run_move hS rfl) fun a hS => st_v hS rfl rfl (run_extract hS rfl rfl) fun a hS => st_v hS rfl rfl (run_extract hS rfl rfl) fun a hS => st_alloc_agg Tryz.zeroValue31 hS rfl rfl fun W a b7 hS => st_store (i := 0) Tryz.sizeOf31 hS rfl rfl rfl rfl rfl rfl rfl rfl rfl fun W a hS => st_v hS rfl rfl (run_assign hS rfl) fun a hS => wl_nil ?_
     try dsimp only [setB] at hS
     refine wpIn_seq ?_
     refine wpIn_region_lit ?_
     refine st_v hS rfl rfl (run_load_all (i := 0) Tryz.isAgg31 Tryz.sizeOf31 hS rfl rfl rfl) fun a hS => st_v hS rfl rfl (run_fieldAddr fa29_1 hS rfl) fun a hS => st_v hS rfl rfl (run_load_one (i := 4) Tryz.isAgg3 hS rfl rfl rfl) fun a hS => st_call (spans_Part (hasOf r A)) Tryz.call168 hS rfl rfl rfl fun v W a hR hB hlt hS => ?_
     rw [if_pos hpe.1, hpe.1] at hR
     subst hR
     refine st_v hS rfl rfl (run_move hS rfl) fun a hS => st_v hS rfl rfl (run_extract hS rfl rfl) fun a hS => st_v hS rfl rfl (run_extract hS rfl rfl) fun a hS => st_alloc_agg Tryz.zeroValue31 hS rfl rfl fun W a b8 hS => st_store (i := 0) Tryz.sizeOf31 hS rfl rfl rfl rfl rfl rfl rfl rfl rfl fun W a hS => st_v hS rfl rfl (run_assign hS rfl) fun a hS => wl_nil ?_
     try dsimp only [setB] at hS
     refine wpIn_seq ?_
     refine wpIn_seq ?_
     refine wpIn_region_lit ?_
     refine st_v hS rfl rfl (run_fieldAddr fa29_4 hS rfl) fun a hS => st_v hS rfl rfl (run_load_one (i := 5) Tryz.isAgg3 hS rfl rfl rfl) fun a hS => st_v hS rfl rfl (run_add (t := c.top + 1) hS rfl rfl (rfl) (by omega) (by omega)) fun a hS => st_v hS rfl rfl (run_move hS rfl) fun a hS => wl_nil ?_
     refine wpIn_block ?_
     have hS := hS.more (Ψ := (fun (z : Nat × (Value × List Value) × (Value × List Value) × (Value × List Value) × List (SV × List Bool)) (W : World) => ∀ y ∈ z.2.2.2.2, Sl kBool (fun k => w.heap.size ≤ k) W y.1 y.2) (⟨0, ⟨.slice none 0 0, []⟩, ⟨.slice none 0 0, []⟩, ⟨.slice none 0 0, []⟩, []⟩)) (fun W' _ _ y hy => by cases hy)
     refine st_loop4 (α := Nat × (Value × List Value) × (Value × List Value) × (Value × List Value) × List (SV × List Bool)) (fun z => [(104, .int .i64 ((z.1 : Nat) : Int))]) [(0, _), (1, _), (2, _), (3, _), (6, _), (38, _), (39, _), (40, _), (9, _), (10, _), (11, _), (13, _), (103, _)] (fun l z => setB (l.take 6 ++ (rowB z.2.1.1 z.2.1.2 3 ++ (rowB z.2.2.1.1 z.2.2.1.2 3 ++ rowB z.2.2.2.1.1 z.2.2.2.1.2 178))) 2 (craftC Vr r c ++ [z.2.1.1, z.2.2.1.1, z.2.2.2.1.1])) (fun (z : Nat × (Value × List Value) × (Value × List Value) × (Value × List Value) × List (SV × List Bool)) (W : World) => ∀ y ∈ z.2.2.2.2, Sl kBool (fun k => w.heap.size ≤ k) W y.1 y.2) (fun z => (z.1 : Int) ≤ c.top + 1 ∧ OwnQ eInt 1 z.2.1.1 (ratesOf r c A false z.1) z.2.1.2 ∧ OwnQ eInt 1 z.2.2.1.1 (ratesOf r c A true z.1) z.2.2.1.2 ∧ OwnQ eRowB 1 z.2.2.2.1.1 z.2.2.2.2 z.2.2.2.1.2 ∧ z.2.2.2.2.map Prod.snd = wakesOf r c A z.1) (fun z => (c.top + 1 - (z.1 : Int)).toNat) (⟨0, ⟨.slice none 0 0, []⟩, ⟨.slice none 0 0, []⟩, ⟨.slice none 0 0, []⟩, []⟩) hS (Sub.cons rfl (Sub.cons rfl (Sub.cons rfl (Sub.cons rfl (Sub.cons rfl (Sub.cons rfl (Sub.cons rfl (Sub.cons rfl (Sub.cons rfl (Sub.cons rfl (Sub.cons rfl (Sub.cons rfl (Sub.cons rfl (Sub.cons rfl Sub.nil)))))))))))))) rfl (⟨by dsimp only; omega, OwnQ.nil _ _, OwnQ.nil _ _, OwnQ.nil _ _, rfl⟩) (fun z W a hφ hS => ?_)
     obtain ⟨i, ⟨v0, cs0⟩, ⟨v1, cs1⟩, ⟨vw, csw⟩, ys⟩ := z
     dsimp only [setB, List.cons_append, List.nil_append, List.take] at hS hφ
     obtain ⟨hi, hO0, hO1, hOw, hys⟩ := hφ
     have hl0 := rates_len r c A false i
     have hl1 := rates_len r c A true i
     have hlw : ys.length = i := by have h := congrArg List.length hys; rw [List.length_map, wakesOf_len] at h; exact h
     refine wpIn_seq ?_
     refine wpIn_region_lit ?_
     refine st_v hS rfl rfl (run_bin hS rfl rfl rfl) fun a hS => wl_nil ?_
     refine wpIn_seq ?_
     refine st_cond hS rfl (fun hc8 => ?_) (fun hc8 => ?_)
     ·
      try simp only [ty] at hc8
      obtain ⟨hlo, hvu⟩ := level_on hE (v := ((i : Nat) : Int)) (by omega) (by omega)
      have hL0 : errC r A (onLevel r A (one (((i : Nat) : Int) * c.unit))) = 0 := errC_of hrok haok hlo
      have hli := levelOf_in hrok haok hlo
      refine wpIn_skip ?_
      refine wpIn_seq ?_
      refine wpIn_block ?_
      refine wpIn_seq ?_
      refine wpIn_region_lit ?_
      refine st_v hS rfl rfl (run_move hS rfl) fun a hS => st_v hS rfl rfl (run_assign hS rfl) fun a hS => wl_nil ?_
      refine wpIn_seq ?_
      refine wpIn_region_lit ?_
      refine st_v hS rfl rfl (run_move hS rfl) fun a hS => st_v hS rfl rfl (run_fieldAddr fa29_2 hS rfl) fun a hS => st_v hS rfl rfl (run_load_one (i := 5) Tryz.isAgg3 hS rfl rfl rfl) fun a hS => st_v hS rfl rfl (run_mul (t := (((i : Nat) : Int) * c.unit)) hS rfl rfl (by rfl) (by omega)) fun a hS => st_v hS rfl rfl (run_move hS rfl) fun a hS => st_v hS rfl rfl (run_fieldAddr fa29_2 hS rfl) fun a hS => st_v hS rfl rfl (run_load_one (i := 5) Tryz.isAgg3 hS rfl rfl rfl) fun a hS => st_v hS rfl rfl (run_mul (t := (((i : Nat) : Int) * c.unit)) hS rfl rfl (by rfl) (by omega)) fun a hS => st_v hS rfl rfl (run_build (pv := [(0, .int .i64 _), (1, .int .i64 _)]) (fun W => bd31_0_1 _ _ W) hS rfl) fun a hS => st_alloc_agg Tryz.zeroValue31 hS rfl rfl fun W a b9 hS => st_store (i := 0) Tryz.sizeOf31 hS rfl rfl rfl rfl rfl rfl rfl rfl rfl fun W a hS => wl_nil ?_
      try dsimp only [setB] at hS
      refine wpIn_seq ?_
      refine wpIn_region_lit ?_
      refine st_v hS rfl rfl (run_load_all (i := 4) Tryz.isAgg27 Tryz.sizeOf27 hS rfl rfl rfl) fun a hS => st_v hS rfl rfl (run_load_all (i := 5) Tryz.isAgg33 Tryz.sizeOf33 hS rfl rfl rfl) fun a hS => st_v hS rfl rfl (run_load_all (i := 0) Tryz.isAgg31 Tryz.sizeOf31 hS rfl rfl rfl) fun a hS => st_call (rotor_Level Vr r A (one (((i : Nat) : Int) * c.unit)) (Hr _ hS.below)) Tryz.call169 hS rfl rfl rfl fun v W a hR hB hlt hS => ?_
      rw [if_pos hL0, hL0] at hR
      subst hR
      refine st_v hS rfl rfl (run_move hS rfl) fun a hS => st_v hS rfl rfl (run_extract hS rfl rfl) fun a hS => st_v hS rfl rfl (run_extract hS rfl rfl) fun a hS => st_alloc_agg Tryz.zeroValue31 hS rfl rfl fun W a b10 hS => st_store (i := 0) Tryz.sizeOf31 hS rfl rfl rfl rfl rfl rfl rfl rfl rfl fun W a hS => st_v hS rfl rfl (run_assign hS rfl) fun a hS => wl_nil ?_
      try dsimp only [setB] at hS
      refine wpIn_seq ?_
      refine wpIn_seq ?_
      refine wpIn_region_lit ?_
      refine st_v hS rfl rfl (run_fieldAddr fa31_0 hS rfl) fun a hS => st_v hS rfl rfl (run_load_one (i := 3) Tryz.isAgg3 hS rfl rfl rfl) fun a hS => st_v hS rfl rfl (run_fieldAddr fa31_0 hS rfl) fun a hS => st_v hS rfl rfl (run_load_one (i := 2) Tryz.isAgg3 hS rfl rfl rfl) fun a hS => st_v hS rfl rfl (run_build (pv := [(0, .int .i64 _), (1, .int .i64 _)]) (fun W => bd200_0_1 _ _ W) hS rfl) fun a hS => st_v hS rfl rfl (run_move hS rfl) fun a hS => wl_nil ?_
      refine wpIn_block ?_
      refine wpIn_loop_rounds 3 ?_
      rw [roundsIn_succ]
      refine wpIn_seq ?_
      refine wpIn_region_lit ?_
      refine st_v hS rfl rfl (run_bin hS rfl rfl rfl) fun a hS => wl_nil ?_
      refine wpIn_seq ?_
      refine st_cond hS rfl (fun hc9 => ?_) (fun hc9 => ?_)
      ·
       try simp only [ty] at hc9
       refine wpIn_skip ?_
       refine wpIn_seq ?_
       refine wpIn_block ?_
       refine wpIn_seq ?_
       refine wpIn_region_lit ?_
       refine st_v hS rfl rfl (run_move hS rfl) fun a hS => st_v hS rfl rfl (run_index (fun W => ixv200_0 _ _ W) hS rfl rfl) fun a hS => st_v hS rfl rfl (run_assign hS rfl) fun a hS => st_v hS rfl rfl (run_assign hS rfl) fun a hS => wl_nil ?_
       have hS := hS.sub (κ' := [(0, _), (1, _), (2, _), (3, _), (6, _), (38, _), (39, _), (40, _), (9, _), (10, _), (11, _), (13, _), (103, _), (104, _), (15, _), (16, _), (17, _), (127, _), (128, _), (19, _), (20, _)]) (Sub.cons rfl (Sub.cons rfl (Sub.cons rfl (Sub.cons rfl (Sub.cons rfl (Sub.cons rfl (Sub.cons rfl (Sub.cons rfl (Sub.cons rfl (Sub.cons rfl (Sub.cons rfl (Sub.cons rfl (Sub.cons rfl (Sub.cons rfl (Sub.cons rfl (Sub.cons rfl (Sub.cons rfl (Sub.cons rfl (Sub.cons rfl (Sub.cons rfl (Sub.cons rfl Sub.nil)))))))))))))))))))))
       have hS := hS.sub (κ' := [(0, _), (1, _), (2, _), (3, _), (6, _), (38, _), (39, _), (40, _), (9, _), (10, _), (11, _), (13, _), (103, _), (104, _), (15, _), (16, _), (17, _), (127, _), (128, _), (19, _), (20, _)]) (Sub.cons rfl (Sub.cons rfl (Sub.cons rfl (Sub.cons rfl (Sub.cons rfl (Sub.cons rfl (Sub.cons rfl (Sub.cons rfl (Sub.cons rfl (Sub.cons rfl (Sub.cons rfl (Sub.cons rfl (Sub.cons rfl (Sub.cons rfl (Sub.cons rfl (Sub.cons rfl (Sub.cons rfl (Sub.cons rfl (Sub.cons rfl (Sub.cons rfl (Sub.cons rfl Sub.nil)))))))))))))))))))))
       refine st_cutR (ι := Value × List Value) (fun l z => setB (l.take 8 ++ (rowB z.1 z.2 3 ++ (rowB v1 cs1 3 ++ rowB vw csw 178))) 4 (craftC Vr r c ++ [z.1, v1, vw])) (fun z => OwnQ eInt 1 z.1 (ratesOf r c A false i ++ [rateAt r c A false ((i : Nat) : Int)]) z.2) hS ?_ (fun z W a hz hS => ?_)
       ·
        refine anyh_start (by kernel_rfl) [true, true, true, true, false, true, true, true] hS fun W hS => ?_
        refine anyh_take (i := 0) [true, true, true, true, false, true, true, true] hS (fun _ h => h) rfl rfl (by kernel_rfl) (by kernel_rfl) (by kernel_rfl) rfl rfl (fun W' hS => run_move hS rfl) fun a hS => ?_
        refine anyh_take (i := 1) [true, true, true, true, false, true, true, true] hS (fun _ h => h) rfl rfl (by kernel_rfl) (by kernel_rfl) (by kernel_rfl) rfl rfl (fun W' hS => run_move hS rfl) fun a hS => ?_
        refine anyh_take (i := 2) [true, true, true, true, false, true, true, true] hS (fun _ h => h) rfl rfl (by kernel_rfl) (by kernel_rfl) (by kernel_rfl) rfl rfl (fun W' hS => run_move hS rfl) fun a hS => ?_
        refine anyh_take (i := 3) [true, true, true, true, false, true, true, true] hS (fun _ h => h) rfl rfl (by kernel_rfl) (by kernel_rfl) (by kernel_rfl) rfl rfl (fun W' hS => run_move hS rfl) fun a hS => ?_
        refine anyh_take (i := 4) [true, true, true, true, false, true, true, true] hS (fun _ h => h) rfl rfl (by kernel_rfl) (by kernel_rfl) (by kernel_rfl) rfl rfl (fun W' hS => run_nilCheck hS rfl) fun a hS => ?_
        refine anyh_take (i := 5) [true, true, true, true, false, true, true, true] hS (fun _ h => h) rfl rfl (by kernel_rfl) (by kernel_rfl) (by kernel_rfl) rfl rfl (fun W' hS => run_fieldAddr fa143_1 hS rfl) fun a hS => ?_
        refine anyh_take (i := 6) [true, true, true, true, false, true, true, true] hS (fun _ h => h) rfl rfl (by kernel_rfl) (by kernel_rfl) (by kernel_rfl) rfl rfl (fun W' hS => run_idxArr (fun W => ia141_0 _ _ W) hS rfl rfl) fun a hS => ?_
        refine anyh_take (i := 8) [true, true, true, true, false, true, true, true] hS (fun _ h => h) rfl rfl (by kernel_rfl) (by kernel_rfl) (by kernel_rfl) rfl rfl (fun W' hS => run_move hS rfl) fun a hS => ?_
        refine anyh_take (i := 9) [true, true, true, true, false, true, true, true] hS (fun _ h => h) rfl rfl (by kernel_rfl) (by kernel_rfl) (by kernel_rfl) rfl rfl (fun W' hS => run_fieldAddr fa31_1 hS rfl) fun a hS => ?_
        refine anyh_take (i := 10) [true, true, true, true, false, true, true, true] hS (fun _ h => h) rfl rfl (by kernel_rfl) (by kernel_rfl) (by kernel_rfl) rfl rfl (fun W' hS => run_load_one (i := 0) Tryz.isAgg3 hS rfl rfl rfl) fun a hS => ?_
        refine anyh_take (i := 11) [true, true, true, true, false, true, true, true] hS (fun _ h => h) rfl rfl (by kernel_rfl) (by kernel_rfl) (by kernel_rfl) rfl rfl (fun W' hS => run_sub (t := ((hasOf r A).lo) - (((levelOf r A (one (((i : Nat) : Int) * c.unit)))).hi)) hS rfl rfl (rfl) (by omega) (by omega)) fun a hS => ?_
        refine anyh_take (i := 12) [true, true, true, true, false, true, true, true] hS (fun _ h => h) rfl rfl (by kernel_rfl) (by kernel_rfl) (by kernel_rfl) rfl rfl (fun W' hS => run_fieldAddr fa27_8 hS rfl) fun a hS => ?_
        refine anyh_take (i := 13) [true, true, true, true, false, true, true, true] hS (fun _ h => h) rfl rfl (by kernel_rfl) (by kernel_rfl) (by kernel_rfl) rfl rfl (fun W' hS => run_load_one (i := 4) Tryz.isAgg3 hS rfl rfl rfl) fun a hS => ?_
        refine anyh_take (i := 14) [true, true, true, true, false, true, true, true] hS (fun _ h => h) rfl rfl (by kernel_rfl) (by kernel_rfl) (by kernel_rfl) rfl rfl (fun W' hS => run_fieldAddr fa29_3 hS rfl) fun a hS => ?_
        refine anyh_take (i := 15) [true, true, true, true, false, true, true, true] hS (fun _ h => h) rfl rfl (by kernel_rfl) (by kernel_rfl) (by kernel_rfl) rfl rfl (fun W' hS => run_load_one (i := 6) Tryz.isAgg3 hS rfl rfl rfl) fun a hS => ?_
        refine anyh_take (i := 16) [true, true, true, true, false, true, true, true] hS (fun _ h => h) rfl rfl (by kernel_rfl) (by kernel_rfl) (by kernel_rfl) rfl rfl (fun W' hS => run_mul (t := (r.climb * c.step)) hS rfl rfl (by rfl) (by omega)) fun a hS => ?_
        refine anyh_take (i := 20) [true, true, true, true, false, true, true, true] hS (fun _ h => h) rfl rfl (by kernel_rfl) (by kernel_rfl) (by kernel_rfl) rfl rfl (fun W' hS => run_nilCheck hS rfl) fun a hS => ?_
        refine anyh_take (i := 21) [true, true, true, true, false, true, true, true] hS (fun _ h => h) rfl rfl (by kernel_rfl) (by kernel_rfl) (by kernel_rfl) rfl rfl (fun W' hS => run_fieldAddr fa143_1 hS rfl) fun a hS => ?_
        refine anyh_go (rs := [7, 17]) (by kernel_rfl) (by simp) ⟨⟨_, rfl, ?_⟩, ⟨_, rfl, ?_⟩, trivial⟩
        ·
         refine st_v hS rfl rfl (run_load_one (i := 4) Tryz.isAgg22 hS rfl rfl rfl) fun a hS => wl_nil ?_
         refine anyh_next [true, true, true, true, false, true, true, true] hS (fun _ h => h) rfl ?_
         refine anyh_go (rs := [17]) (by kernel_rfl) (by simp) ⟨⟨_, rfl, ?_⟩, trivial⟩
         refine st_call (engine_floor (by omega) (by omega) (by omega)) Tryz.call170 hS rfl rfl rfl fun v W a hR hB hlt hS => ?_
         subst hR
         refine wl_nil ?_
         refine anyh_next [true, true, true, true, false, true, true, true] hS (fun _ h => h) rfl ?_
         refine anyh_go (rs := [18]) (by kernel_rfl) (by simp) ⟨⟨_, rfl, ?_⟩, trivial⟩
         refine st_buildSlice (pv := [(0, .int .i64 _)]) (fun W => bs22_1_0 _ W) hS rfl rfl rfl fun W a b11 hS => wl_nil ?_
         refine anyh_next [false, true, true, true, true, false, true, true, true] hS (fun _ h => h) rfl ?_
         refine anyh_go (rs := [19]) (by kernel_rfl) (by simp) ⟨⟨_, rfl, ?_⟩, trivial⟩
         refine st_appQ (ys := [rateAt r c A false ((i : Nat) : Int)]) (enc := eInt) (sz := 1) (fun _ => rfl) Tryz.underlying22 (AI.of ai3) (by decide) (hS.pr0 (L := [_, _, _, _, _, _, _, _, _])) hO0 rfl rfl rfl rfl (src_own (sz := 1) Tryz.underlying22 hS (i := 0) rfl rfl rfl) rfl (by rw [hl0]; omega) fun W a v1 cs1 hO1 ho1 hz1 hS => ?_
         have hS := hS.qr0 (L := [_, _, _, _, _, _, _, _, _])
         refine wl_nil ?_
         refine anyh_next [false, true, true, true, true, false, true, true, true] hS (fun _ h => h) rfl ?_
         refine anyh_take (i := 22) [false, true, true, true, true, false, true, true, true] hS (fun _ h => h) rfl rfl (by kernel_rfl) (by kernel_rfl) (by kernel_rfl) rfl rfl (fun W' hS => run_idxArr (fun W => ia141_0 _ _ W) hS rfl rfl) fun a hS => ?_
         refine anyh_go (rs := [23]) (by kernel_rfl) (by simp) ⟨⟨_, rfl, ?_⟩, trivial⟩
         refine st_store (vs := [v1]) (i := 5) Tryz.sizeOf22 hS rfl rfl rfl rfl (OwnQ.cells1 hO1) rfl rfl (allc (OwnQ.one1 hO1) rfl) rfl fun W a hS => wl_nil ?_
         try dsimp only [setB] at hS
         refine anyh_next [false, true, true, true, true, false, true, true, true] hS (fun _ h => h) rfl ?_
         refine anyh_done (by kernel_rfl) ?_ _
         exact cut_end ⟨(v1, cs1), hO1, (hS.sub (Sub.cons rfl (Sub.cons rfl (Sub.cons rfl (Sub.cons rfl (Sub.cons rfl (Sub.cons rfl (Sub.cons rfl (Sub.cons rfl (Sub.cons rfl (Sub.cons rfl (Sub.cons rfl (Sub.cons rfl (Sub.cons rfl (Sub.cons rfl (Sub.cons rfl (Sub.cons rfl (Sub.cons rfl (Sub.cons rfl (Sub.cons rfl (Sub.cons rfl (Sub.cons rfl Sub.nil)))))))))))))))))))))).drop (List.Sublist.cons _ (List.Sublist.refl _))⟩
        ·
         refine st_call (engine_floor (by omega) (by omega) (by omega)) Tryz.call170 hS rfl rfl rfl fun v W a hR hB hlt hS => ?_
         subst hR
         refine wl_nil ?_
         refine anyh_next [true, true, true, true, false, true, true, true] hS (fun _ h => h) rfl ?_
         refine anyh_go (rs := [7, 18]) (by kernel_rfl) (by simp) ⟨⟨_, rfl, ?_⟩, ⟨_, rfl, ?_⟩, trivial⟩
         ·
          refine st_v hS rfl rfl (run_load_one (i := 4) Tryz.isAgg22 hS rfl rfl rfl) fun a hS => wl_nil ?_
          refine anyh_next [true, true, true, true, false, true, true, true] hS (fun _ h => h) rfl ?_
          refine anyh_go (rs := [18]) (by kernel_rfl) (by simp) ⟨⟨_, rfl, ?_⟩, trivial⟩
          refine st_buildSlice (pv := [(0, .int .i64 _)]) (fun W => bs22_1_0 _ W) hS rfl rfl rfl fun W a b12 hS => wl_nil ?_
          refine anyh_next [false, true, true, true, true, false, true, true, true] hS (fun _ h => h) rfl ?_
          refine anyh_go (rs := [19]) (by kernel_rfl) (by simp) ⟨⟨_, rfl, ?_⟩, trivial⟩
          refine st_appQ (ys := [rateAt r c A false ((i : Nat) : Int)]) (enc := eInt) (sz := 1) (fun _ => rfl) Tryz.underlying22 (AI.of ai3) (by decide) (hS.pr0 (L := [_, _, _, _, _, _, _, _, _])) hO0 rfl rfl rfl rfl (src_own (sz := 1) Tryz.underlying22 hS (i := 0) rfl rfl rfl) rfl (by rw [hl0]; omega) fun W a v2 cs2 hO2 ho2 hz2 hS => ?_
          have hS := hS.qr0 (L := [_, _, _, _, _, _, _, _, _])
          refine wl_nil ?_
          refine anyh_next [false, true, true, true, true, false, true, true, true] hS (fun _ h => h) rfl ?_
          refine anyh_take (i := 22) [false, true, true, true, true, false, true, true, true] hS (fun _ h => h) rfl rfl (by kernel_rfl) (by kernel_rfl) (by kernel_rfl) rfl rfl (fun W' hS => run_idxArr (fun W => ia141_0 _ _ W) hS rfl rfl) fun a hS => ?_
          refine anyh_go (rs := [23]) (by kernel_rfl) (by simp) ⟨⟨_, rfl, ?_⟩, trivial⟩
          refine st_store (vs := [v2]) (i := 5) Tryz.sizeOf22 hS rfl rfl rfl rfl (OwnQ.cells1 hO2) rfl rfl (allc (OwnQ.one1 hO2) rfl) rfl fun W a hS => wl_nil ?_
          try dsimp only [setB] at hS
          refine anyh_next [false, true, true, true, true, false, true, true, true] hS (fun _ h => h) rfl ?_
          refine anyh_done (by kernel_rfl) ?_ _
          exact cut_end ⟨(v2, cs2), hO2, (hS.sub (Sub.cons rfl (Sub.cons rfl (Sub.cons rfl (Sub.cons rfl (Sub.cons rfl (Sub.cons rfl (Sub.cons rfl (Sub.cons rfl (Sub.cons rfl (Sub.cons rfl (Sub.cons rfl (Sub.cons rfl (Sub.cons rfl (Sub.cons rfl (Sub.cons rfl (Sub.cons rfl (Sub.cons rfl (Sub.cons rfl (Sub.cons rfl (Sub.cons rfl (Sub.cons rfl Sub.nil)))))))))))))))))))))).drop (List.Sublist.cons _ (List.Sublist.refl _))⟩
         ·
          refine st_buildSlice (pv := [(0, .int .i64 _)]) (fun W => bs22_1_0 _ W) hS rfl rfl rfl fun W a b13 hS => wl_nil ?_
          refine anyh_next [false, true, true, true, true, false, true, true, true] hS (fun _ h => h) rfl ?_
          refine anyh_go (rs := [7]) (by kernel_rfl) (by simp) ⟨⟨_, rfl, ?_⟩, trivial⟩
          refine st_v hS rfl rfl (run_load_one (i := 5) Tryz.isAgg22 hS rfl rfl rfl) fun a hS => wl_nil ?_
          refine anyh_next [false, true, true, true, true, false, true, true, true] hS (fun _ h => h) rfl ?_
          refine anyh_go (rs := [19]) (by kernel_rfl) (by simp) ⟨⟨_, rfl, ?_⟩, trivial⟩
          refine st_appQ (ys := [rateAt r c A false ((i : Nat) : Int)]) (enc := eInt) (sz := 1) (fun _ => rfl) Tryz.underlying22 (AI.of ai3) (by decide) (hS.pr0 (L := [_, _, _, _, _, _, _, _, _])) hO0 rfl rfl rfl rfl (src_own (sz := 1) Tryz.underlying22 hS (i := 0) rfl rfl rfl) rfl (by rw [hl0]; omega) fun W a v3 cs3 hO3 ho3 hz3 hS => ?_
          have hS := hS.qr0 (L := [_, _, _, _, _, _, _, _, _])
          refine wl_nil ?_
          refine anyh_next [false, true, true, true, true, false, true, true, true] hS (fun _ h => h) rfl ?_
          refine anyh_take (i := 22) [false, true, true, true, true, false, true, true, true] hS (fun _ h => h) rfl rfl (by kernel_rfl) (by kernel_rfl) (by kernel_rfl) rfl rfl (fun W' hS => run_idxArr (fun W => ia141_0 _ _ W) hS rfl rfl) fun a hS => ?_
          refine anyh_go (rs := [23]) (by kernel_rfl) (by simp) ⟨⟨_, rfl, ?_⟩, trivial⟩
          refine st_store (vs := [v3]) (i := 5) Tryz.sizeOf22 hS rfl rfl rfl rfl (OwnQ.cells1 hO3) rfl rfl (allc (OwnQ.one1 hO3) rfl) rfl fun W a hS => wl_nil ?_
          try dsimp only [setB] at hS
          refine anyh_next [false, true, true, true, true, false, true, true, true] hS (fun _ h => h) rfl ?_
          refine anyh_done (by kernel_rfl) ?_ _
          exact cut_end ⟨(v3, cs3), hO3, (hS.sub (Sub.cons rfl (Sub.cons rfl (Sub.cons rfl (Sub.cons rfl (Sub.cons rfl (Sub.cons rfl (Sub.cons rfl (Sub.cons rfl (Sub.cons rfl (Sub.cons rfl (Sub.cons rfl (Sub.cons rfl (Sub.cons rfl (Sub.cons rfl (Sub.cons rfl (Sub.cons rfl (Sub.cons rfl (Sub.cons rfl (Sub.cons rfl (Sub.cons rfl (Sub.cons rfl Sub.nil)))))))))))))))))))))).drop (List.Sublist.cons _ (List.Sublist.refl _))⟩
       ·
        obtain ⟨v0', cs0'⟩ := z
        dsimp only [setB, List.cons_append, List.nil_append, List.take] at hS hz
        have hR0 := hz
        refine wpIn_region_lit ?_
        refine st_v hS rfl rfl (run_add (t := (1 : Int)) hS rfl rfl (by omega) (by omega) (by omega)) fun a hS => st_v hS rfl rfl (run_move hS rfl) fun a hS => wl_nil ?_
        refine q_then ?_
        rw [roundsIn_succ]
        refine wpIn_seq ?_
        refine wpIn_region_lit ?_
        refine st_v hS rfl rfl (run_bin hS rfl rfl rfl) fun a hS => wl_nil ?_
        refine wpIn_seq ?_
        refine st_cond hS rfl (fun hc10 => ?_) (fun hc10 => ?_)
        ·
         try simp only [ty] at hc10
         refine wpIn_skip ?_
         refine wpIn_seq ?_
         refine wpIn_block ?_
         refine wpIn_seq ?_
         refine wpIn_region_lit ?_
         refine st_v hS rfl rfl (run_move hS rfl) fun a hS => st_v hS rfl rfl (run_index (fun W => ixv200_1 _ _ W) hS rfl rfl) fun a hS => st_v hS rfl rfl (run_assign hS rfl) fun a hS => st_v hS rfl rfl (run_assign hS rfl) fun a hS => wl_nil ?_
         have hS := hS.sub (κ' := [(0, _), (1, _), (2, _), (3, _), (6, _), (38, _), (39, _), (40, _), (9, _), (10, _), (11, _), (13, _), (103, _), (104, _), (15, _), (16, _), (17, _), (127, _), (128, _), (19, _), (20, _)]) (Sub.cons rfl (Sub.cons rfl (Sub.cons rfl (Sub.cons rfl (Sub.cons rfl (Sub.cons rfl (Sub.cons rfl (Sub.cons rfl (Sub.cons rfl (Sub.cons rfl (Sub.cons rfl (Sub.cons rfl (Sub.cons rfl (Sub.cons rfl (Sub.cons rfl (Sub.cons rfl (Sub.cons rfl (Sub.cons rfl (Sub.cons rfl (Sub.cons rfl (Sub.cons rfl Sub.nil)))))))))))))))))))))
         refine st_cutR (ι := Value × List Value) (fun l z => setB (l.take 8 ++ (rowB v0' cs0' 3 ++ (rowB z.1 z.2 3 ++ rowB vw csw 178))) 4 (craftC Vr r c ++ [v0', z.1, vw])) (fun z => OwnQ eInt 1 z.1 (ratesOf r c A true i ++ [rateAt r c A true ((i : Nat) : Int)]) z.2) hS ?_ (fun z W a hz hS => ?_)
         ·
          refine anyh_start (by kernel_rfl) [true, true, true, true, false, true, true, true] hS fun W hS => ?_
          refine anyh_take (i := 0) [true, true, true, true, false, true, true, true] hS (fun _ h => h) rfl rfl (by kernel_rfl) (by kernel_rfl) (by kernel_rfl) rfl rfl (fun W' hS => run_move hS rfl) fun a hS => ?_
          refine anyh_take (i := 1) [true, true, true, true, false, true, true, true] hS (fun _ h => h) rfl rfl (by kernel_rfl) (by kernel_rfl) (by kernel_rfl) rfl rfl (fun W' hS => run_move hS rfl) fun a hS => ?_
          refine anyh_take (i := 2) [true, true, true, true, false, true, true, true] hS (fun _ h => h) rfl rfl (by kernel_rfl) (by kernel_rfl) (by kernel_rfl) rfl rfl (fun W' hS => run_move hS rfl) fun a hS => ?_
          refine anyh_take (i := 3) [true, true, true, true, false, true, true, true] hS (fun _ h => h) rfl rfl (by kernel_rfl) (by kernel_rfl) (by kernel_rfl) rfl rfl (fun W' hS => run_move hS rfl) fun a hS => ?_
          refine anyh_take (i := 4) [true, true, true, true, false, true, true, true] hS (fun _ h => h) rfl rfl (by kernel_rfl) (by kernel_rfl) (by kernel_rfl) rfl rfl (fun W' hS => run_nilCheck hS rfl) fun a hS => ?_
          refine anyh_take (i := 5) [true, true, true, true, false, true, true, true] hS (fun _ h => h) rfl rfl (by kernel_rfl) (by kernel_rfl) (by kernel_rfl) rfl rfl (fun W' hS => run_fieldAddr fa143_1 hS rfl) fun a hS => ?_
          refine anyh_take (i := 6) [true, true, true, true, false, true, true, true] hS (fun _ h => h) rfl rfl (by kernel_rfl) (by kernel_rfl) (by kernel_rfl) rfl rfl (fun W' hS => run_idxArr (fun W => ia141_1 _ _ W) hS rfl rfl) fun a hS => ?_
          refine anyh_take (i := 8) [true, true, true, true, false, true, true, true] hS (fun _ h => h) rfl rfl (by kernel_rfl) (by kernel_rfl) (by kernel_rfl) rfl rfl (fun W' hS => run_move hS rfl) fun a hS => ?_
          refine anyh_take (i := 9) [true, true, true, true, false, true, true, true] hS (fun _ h => h) rfl rfl (by kernel_rfl) (by kernel_rfl) (by kernel_rfl) rfl rfl (fun W' hS => run_fieldAddr fa31_1 hS rfl) fun a hS => ?_
          refine anyh_take (i := 10) [true, true, true, true, false, true, true, true] hS (fun _ h => h) rfl rfl (by kernel_rfl) (by kernel_rfl) (by kernel_rfl) rfl rfl (fun W' hS => run_load_one (i := 0) Tryz.isAgg3 hS rfl rfl rfl) fun a hS => ?_
          refine anyh_take (i := 11) [true, true, true, true, false, true, true, true] hS (fun _ h => h) rfl rfl (by kernel_rfl) (by kernel_rfl) (by kernel_rfl) rfl rfl (fun W' hS => run_sub (t := ((partOf (hasOf r A) c.one 100).lo) - (((levelOf r A (one (((i : Nat) : Int) * c.unit)))).hi)) hS rfl rfl (rfl) (by omega) (by omega)) fun a hS => ?_
          refine anyh_take (i := 12) [true, true, true, true, false, true, true, true] hS (fun _ h => h) rfl rfl (by kernel_rfl) (by kernel_rfl) (by kernel_rfl) rfl rfl (fun W' hS => run_fieldAddr fa27_8 hS rfl) fun a hS => ?_
          refine anyh_take (i := 13) [true, true, true, true, false, true, true, true] hS (fun _ h => h) rfl rfl (by kernel_rfl) (by kernel_rfl) (by kernel_rfl) rfl rfl (fun W' hS => run_load_one (i := 4) Tryz.isAgg3 hS rfl rfl rfl) fun a hS => ?_
          refine anyh_take (i := 14) [true, true, true, true, false, true, true, true] hS (fun _ h => h) rfl rfl (by kernel_rfl) (by kernel_rfl) (by kernel_rfl) rfl rfl (fun W' hS => run_fieldAddr fa29_3 hS rfl) fun a hS => ?_
          refine anyh_take (i := 15) [true, true, true, true, false, true, true, true] hS (fun _ h => h) rfl rfl (by kernel_rfl) (by kernel_rfl) (by kernel_rfl) rfl rfl (fun W' hS => run_load_one (i := 6) Tryz.isAgg3 hS rfl rfl rfl) fun a hS => ?_
          refine anyh_take (i := 16) [true, true, true, true, false, true, true, true] hS (fun _ h => h) rfl rfl (by kernel_rfl) (by kernel_rfl) (by kernel_rfl) rfl rfl (fun W' hS => run_mul (t := (r.climb * c.step)) hS rfl rfl (by rfl) (by omega)) fun a hS => ?_
          refine anyh_take (i := 20) [true, true, true, true, false, true, true, true] hS (fun _ h => h) rfl rfl (by kernel_rfl) (by kernel_rfl) (by kernel_rfl) rfl rfl (fun W' hS => run_nilCheck hS rfl) fun a hS => ?_
          refine anyh_take (i := 21) [true, true, true, true, false, true, true, true] hS (fun _ h => h) rfl rfl (by kernel_rfl) (by kernel_rfl) (by kernel_rfl) rfl rfl (fun W' hS => run_fieldAddr fa143_1 hS rfl) fun a hS => ?_
          refine anyh_go (rs := [7, 17]) (by kernel_rfl) (by simp) ⟨⟨_, rfl, ?_⟩, ⟨_, rfl, ?_⟩, trivial⟩
          ·
           refine st_v hS rfl rfl (run_load_one (i := 4) Tryz.isAgg22 hS rfl rfl rfl) fun a hS => wl_nil ?_
           refine anyh_next [true, true, true, true, false, true, true, true] hS (fun _ h => h) rfl ?_
           refine anyh_go (rs := [17]) (by kernel_rfl) (by simp) ⟨⟨_, rfl, ?_⟩, trivial⟩
           refine st_call (engine_floor (by omega) (by omega) (by omega)) Tryz.call170 hS rfl rfl rfl fun v W a hR hB hlt hS => ?_
           subst hR
           refine wl_nil ?_
           refine anyh_next [true, true, true, true, false, true, true, true] hS (fun _ h => h) rfl ?_
           refine anyh_go (rs := [18]) (by kernel_rfl) (by simp) ⟨⟨_, rfl, ?_⟩, trivial⟩
           refine st_buildSlice (pv := [(0, .int .i64 _)]) (fun W => bs22_1_0 _ W) hS rfl rfl rfl fun W a b14 hS => wl_nil ?_
           refine anyh_next [false, true, true, true, true, false, true, true, true] hS (fun _ h => h) rfl ?_
           refine anyh_go (rs := [19]) (by kernel_rfl) (by simp) ⟨⟨_, rfl, ?_⟩, trivial⟩
           refine st_appQ (ys := [rateAt r c A true ((i : Nat) : Int)]) (enc := eInt) (sz := 1) (fun _ => rfl) Tryz.underlying22 (AI.of ai3) (by decide) (hS.pr1 (L := [_, _, _, _, _, _, _, _, _])) hO1 rfl rfl rfl rfl (src_own (sz := 1) Tryz.underlying22 hS (i := 0) rfl rfl rfl) rfl (by rw [hl1]; omega) fun W a v4 cs4 hO4 ho4 hz4 hS => ?_
           have hS := hS.qr1 (L := [_, _, _, _, _, _, _, _, _])
           refine wl_nil ?_
           refine anyh_next [false, true, true, true, true, false, true, true, true] hS (fun _ h => h) rfl ?_
           refine anyh_take (i := 22) [false, true, true, true, true, false, true, true, true] hS (fun _ h => h) rfl rfl (by kernel_rfl) (by kernel_rfl) (by kernel_rfl) rfl rfl (fun W' hS => run_idxArr (fun W => ia141_1 _ _ W) hS rfl rfl) fun a hS => ?_
           refine anyh_go (rs := [23]) (by kernel_rfl) (by simp) ⟨⟨_, rfl, ?_⟩, trivial⟩
           refine st_store (vs := [v4]) (i := 5) Tryz.sizeOf22 hS rfl rfl rfl rfl (OwnQ.cells1 hO4) rfl rfl (allc (OwnQ.one1 hO4) rfl) rfl fun W a hS => wl_nil ?_
           try dsimp only [setB] at hS
           refine anyh_next [false, true, true, true, true, false, true, true, true] hS (fun _ h => h) rfl ?_
           refine anyh_done (by kernel_rfl) ?_ _
           exact cut_end ⟨(v4, cs4), hO4, (hS.sub (Sub.cons rfl (Sub.cons rfl (Sub.cons rfl (Sub.cons rfl (Sub.cons rfl (Sub.cons rfl (Sub.cons rfl (Sub.cons rfl (Sub.cons rfl (Sub.cons rfl (Sub.cons rfl (Sub.cons rfl (Sub.cons rfl (Sub.cons rfl (Sub.cons rfl (Sub.cons rfl (Sub.cons rfl (Sub.cons rfl (Sub.cons rfl (Sub.cons rfl (Sub.cons rfl Sub.nil)))))))))))))))))))))).drop (List.Sublist.cons _ (List.Sublist.refl _))⟩
          ·
           refine st_call (engine_floor (by omega) (by omega) (by omega)) Tryz.call170 hS rfl rfl rfl fun v W a hR hB hlt hS => ?_
           subst hR
           refine wl_nil ?_
           refine anyh_next [true, true, true, true, false, true, true, true] hS (fun _ h => h) rfl ?_
           refine anyh_go (rs := [7, 18]) (by kernel_rfl) (by simp) ⟨⟨_, rfl, ?_⟩, ⟨_, rfl, ?_⟩, trivial⟩
           ·
            refine st_v hS rfl rfl (run_load_one (i := 4) Tryz.isAgg22 hS rfl rfl rfl) fun a hS => wl_nil ?_
            refine anyh_next [true, true, true, true, false, true, true, true] hS (fun _ h => h) rfl ?_
            refine anyh_go (rs := [18]) (by kernel_rfl) (by simp) ⟨⟨_, rfl, ?_⟩, trivial⟩
            refine st_buildSlice (pv := [(0, .int .i64 _)]) (fun W => bs22_1_0 _ W) hS rfl rfl rfl fun W a b15 hS => wl_nil ?_
            refine anyh_next [false, true, true, true, true, false, true, true, true] hS (fun _ h => h) rfl ?_
            refine anyh_go (rs := [19]) (by kernel_rfl) (by simp) ⟨⟨_, rfl, ?_⟩, trivial⟩
            refine st_appQ (ys := [rateAt r c A true ((i : Nat) : Int)]) (enc := eInt) (sz := 1) (fun _ => rfl) Tryz.underlying22 (AI.of ai3) (by decide) (hS.pr1 (L := [_, _, _, _, _, _, _, _, _])) hO1 rfl rfl rfl rfl (src_own (sz := 1) Tryz.underlying22 hS (i := 0) rfl rfl rfl) rfl (by rw [hl1]; omega) fun W a v5 cs5 hO5 ho5 hz5 hS => ?_
            have hS := hS.qr1 (L := [_, _, _, _, _, _, _, _, _])
            refine wl_nil ?_
            refine anyh_next [false, true, true, true, true, false, true, true, true] hS (fun _ h => h) rfl ?_
            refine anyh_take (i := 22) [false, true, true, true, true, false, true, true, true] hS (fun _ h => h) rfl rfl (by kernel_rfl) (by kernel_rfl) (by kernel_rfl) rfl rfl (fun W' hS => run_idxArr (fun W => ia141_1 _ _ W) hS rfl rfl) fun a hS => ?_
            refine anyh_go (rs := [23]) (by kernel_rfl) (by simp) ⟨⟨_, rfl, ?_⟩, trivial⟩
            refine st_store (vs := [v5]) (i := 5) Tryz.sizeOf22 hS rfl rfl rfl rfl (OwnQ.cells1 hO5) rfl rfl (allc (OwnQ.one1 hO5) rfl) rfl fun W a hS => wl_nil ?_
            try dsimp only [setB] at hS
            refine anyh_next [false, true, true, true, true, false, true, true, true] hS (fun _ h => h) rfl ?_
            refine anyh_done (by kernel_rfl) ?_ _
            exact cut_end ⟨(v5, cs5), hO5, (hS.sub (Sub.cons rfl (Sub.cons rfl (Sub.cons rfl (Sub.cons rfl (Sub.cons rfl (Sub.cons rfl (Sub.cons rfl (Sub.cons rfl (Sub.cons rfl (Sub.cons rfl (Sub.cons rfl (Sub.cons rfl (Sub.cons rfl (Sub.cons rfl (Sub.cons rfl (Sub.cons rfl (Sub.cons rfl (Sub.cons rfl (Sub.cons rfl (Sub.cons rfl (Sub.cons rfl Sub.nil)))))))))))))))))))))).drop (List.Sublist.cons _ (List.Sublist.refl _))⟩
           ·
            refine st_buildSlice (pv := [(0, .int .i64 _)]) (fun W => bs22_1_0 _ W) hS rfl rfl rfl fun W a b16 hS => wl_nil ?_
            refine anyh_next [false, true, true, true, true, false, true, true, true] hS (fun _ h => h) rfl ?_
            refine anyh_go (rs := [7]) (by kernel_rfl) (by simp) ⟨⟨_, rfl, ?_⟩, trivial⟩
            refine st_v hS rfl rfl (run_load_one (i := 5) Tryz.isAgg22 hS rfl rfl rfl) fun a hS => wl_nil ?_
            refine anyh_next [false, true, true, true, true, false, true, true, true] hS (fun _ h => h) rfl ?_
            refine anyh_go (rs := [19]) (by kernel_rfl) (by simp) ⟨⟨_, rfl, ?_⟩, trivial⟩
            refine st_appQ (ys := [rateAt r c A true ((i : Nat) : Int)]) (enc := eInt) (sz := 1) (fun _ => rfl) Tryz.underlying22 (AI.of ai3) (by decide) (hS.pr1 (L := [_, _, _, _, _, _, _, _, _])) hO1 rfl rfl rfl rfl (src_own (sz := 1) Tryz.underlying22 hS (i := 0) rfl rfl rfl) rfl (by rw [hl1]; omega) fun W a v6 cs6 hO6 ho6 hz6 hS => ?_
            have hS := hS.qr1 (L := [_, _, _, _, _, _, _, _, _])
            refine wl_nil ?_
            refine anyh_next [false, true, true, true, true, false, true, true, true] hS (fun _ h => h) rfl ?_
            refine anyh_take (i := 22) [false, true, true, true, true, false, true, true, true] hS (fun _ h => h) rfl rfl (by kernel_rfl) (by kernel_rfl) (by kernel_rfl) rfl rfl (fun W' hS => run_idxArr (fun W => ia141_1 _ _ W) hS rfl rfl) fun a hS => ?_
            refine anyh_go (rs := [23]) (by kernel_rfl) (by simp) ⟨⟨_, rfl, ?_⟩, trivial⟩
            refine st_store (vs := [v6]) (i := 5) Tryz.sizeOf22 hS rfl rfl rfl rfl (OwnQ.cells1 hO6) rfl rfl (allc (OwnQ.one1 hO6) rfl) rfl fun W a hS => wl_nil ?_
            try dsimp only [setB] at hS
            refine anyh_next [false, true, true, true, true, false, true, true, true] hS (fun _ h => h) rfl ?_
            refine anyh_done (by kernel_rfl) ?_ _
            exact cut_end ⟨(v6, cs6), hO6, (hS.sub (Sub.cons rfl (Sub.cons rfl (Sub.cons rfl (Sub.cons rfl (Sub.cons rfl (Sub.cons rfl (Sub.cons rfl (Sub.cons rfl (Sub.cons rfl (Sub.cons rfl (Sub.cons rfl (Sub.cons rfl (Sub.cons rfl (Sub.cons rfl (Sub.cons rfl (Sub.cons rfl (Sub.cons rfl (Sub.cons rfl (Sub.cons rfl (Sub.cons rfl (Sub.cons rfl Sub.nil)))))))))))))))))))))).drop (List.Sublist.cons _ (List.Sublist.refl _))⟩
         ·
          obtain ⟨v1', cs1'⟩ := z
          dsimp only [setB, List.cons_append, List.nil_append, List.take] at hS hz
          have hR1 := hz
          refine wpIn_region_lit ?_
          refine st_v hS rfl rfl (run_add (t := (2 : Int)) hS rfl rfl (by omega) (by omega) (by omega)) fun a hS => st_v hS rfl rfl (run_move hS rfl) fun a hS => wl_nil ?_
          refine q_then ?_
          rw [roundsIn_succ]
          refine wpIn_seq ?_
          refine wpIn_region_lit ?_
          refine st_v hS rfl rfl (run_bin hS rfl rfl rfl) fun a hS => wl_nil ?_
          refine wpIn_seq ?_
          refine st_cond hS rfl (fun hc11 => ?_) (fun hc11 => ?_)
          ·
           try simp only [ty] at hc11
           exfalso; omega
          ·
           try simp only [ty] at hc11
           refine wpIn_exit ?_
           refine wpIn_seq ?_
           refine wpIn_region_lit ?_
           refine st_v hS rfl rfl (run_assign hS rfl) fun a hS => wl_nil ?_
           refine wpIn_seq ?_
           refine wpIn_seq ?_
           refine wpIn_region_lit ?_
           refine st_v hS rfl rfl (run_fieldAddr fa29_5 hS rfl) fun a hS => st_v hS rfl rfl (run_load_one (i := 7) Tryz.isAgg3 hS rfl rfl rfl) fun a hS => st_v hS rfl rfl (run_add (t := c.drop + 1) hS rfl rfl (rfl) (by omega) (by omega)) fun a hS => st_v hS rfl rfl (run_move hS rfl) fun a hS => wl_nil ?_
           refine wpIn_block ?_
           refine st_loop2 (α := Nat × Value × List Value) (fun z => [(159, .int .i64 ((z.1 : Nat) : Int)), (21, z.2.1)]) [(0, _), (1, _), (2, _), (3, _), (6, _), (38, _), (39, _), (40, _), (9, _), (10, _), (11, _), (13, _), (103, _), (104, _), (15, _), (16, _), (17, _), (127, _), (128, _), (19, _), (20, _), (158, _)] (fun l z => l ++ rowB z.2.1 z.2.2 4) (fun z => (z.1 : Int) ≤ c.drop + 1 ∧ OwnQ eBool 1 z.2.1 (wakeR r c A ((i : Nat) : Int) z.1) z.2.2) (fun z => (c.drop + 1 - (z.1 : Int)).toNat) (⟨0, .slice none 0 0, []⟩) hS (Sub.cons rfl (Sub.cons rfl (Sub.cons rfl (Sub.cons rfl (Sub.cons rfl (Sub.cons rfl (Sub.cons rfl (Sub.cons rfl (Sub.cons rfl (Sub.cons rfl (Sub.cons rfl (Sub.cons rfl (Sub.cons rfl (Sub.cons rfl (Sub.cons rfl (Sub.cons rfl (Sub.cons rfl (Sub.cons rfl (Sub.cons rfl (Sub.cons rfl (Sub.cons rfl (Sub.cons rfl (Sub.cons rfl (Sub.cons rfl Sub.nil)))))))))))))))))))))))) (List.append_nil _) (⟨by dsimp only; omega, OwnQ.nil _ _⟩) (fun z W a hφ hS => ?_)
           obtain ⟨k, v3, cs3⟩ := z
           dsimp only [setB, List.cons_append, List.nil_append, List.take] at hS hφ
           obtain ⟨hk, hO3⟩ := hφ
           have hlk := wakeR_len r c A ((i : Nat) : Int) k
           have hks := prod_in (a := ((k : Nat) : Int)) (b := c.step) (A := 4) (B := 1000) (by omega) (by omega) (by omega) (by omega)
           refine wpIn_seq ?_
           refine wpIn_region_lit ?_
           refine st_v hS rfl rfl (run_bin hS rfl rfl rfl) fun a hS => wl_nil ?_
           refine wpIn_seq ?_
           refine st_cond hS rfl (fun hc12 => ?_) (fun hc12 => ?_)
           ·
            try simp only [ty] at hc12
            refine wpIn_skip ?_
            refine wpIn_seq ?_
            refine wpIn_block ?_
            refine wpIn_seq ?_
            refine wpIn_region_lit ?_
            refine st_v hS rfl rfl (run_move hS rfl) fun a hS => st_v hS rfl rfl (run_assign hS rfl) fun a hS => wl_nil ?_
            refine wpIn_seq ?_
            refine wpIn_region_lit ?_
            refine st_v hS rfl rfl (run_move hS rfl) fun a hS => st_v hS rfl rfl (run_fieldAddr fa29_3 hS rfl) fun a hS => st_v hS rfl rfl (run_load_one (i := 7) Tryz.isAgg3 hS rfl rfl rfl) fun a hS => st_v hS rfl rfl (run_mul (t := (((k : Nat) : Int) * c.step)) hS rfl rfl (by rfl) (by omega)) fun a hS => st_v hS rfl rfl (run_move hS rfl) fun a hS => st_v hS rfl rfl (run_fieldAddr fa29_3 hS rfl) fun a hS => st_v hS rfl rfl (run_load_one (i := 7) Tryz.isAgg3 hS rfl rfl rfl) fun a hS => st_v hS rfl rfl (run_mul (t := (((k : Nat) : Int) * c.step)) hS rfl rfl (by rfl) (by omega)) fun a hS => st_v hS rfl rfl (run_build (pv := [(0, .int .i64 _), (1, .int .i64 _)]) (fun W => bd31_0_1 _ _ W) hS rfl) fun a hS => st_alloc_agg Tryz.zeroValue31 hS rfl rfl fun W a b17 hS => st_store (i := 0) Tryz.sizeOf31 hS rfl rfl rfl rfl rfl rfl rfl rfl rfl fun W a hS => wl_nil ?_
            try dsimp only [setB] at hS
            refine wpIn_seq ?_
            refine wpIn_region_lit ?_
            refine st_v hS rfl rfl (run_assign hS rfl) fun a hS => wl_nil ?_
            refine wpIn_seq ?_
            refine wpIn_seq ?_
            have hS := hS.sub (κ' := [(0, _), (1, _), (2, _), (3, _), (6, _), (38, _), (39, _), (40, _), (9, _), (10, _), (11, _), (13, _), (103, _), (104, _), (15, _), (16, _), (17, _), (127, _), (128, _), (19, _), (20, _), (158, _), (159, _), (21, _), (22, _), (23, _), (24, _)]) (Sub.cons rfl (Sub.cons rfl (Sub.cons rfl (Sub.cons rfl (Sub.cons rfl (Sub.cons rfl (Sub.cons rfl (Sub.cons rfl (Sub.cons rfl (Sub.cons rfl (Sub.cons rfl (Sub.cons rfl (Sub.cons rfl (Sub.cons rfl (Sub.cons rfl (Sub.cons rfl (Sub.cons rfl (Sub.cons rfl (Sub.cons rfl (Sub.cons rfl (Sub.cons rfl (Sub.cons rfl (Sub.cons rfl (Sub.cons rfl (Sub.cons rfl (Sub.cons rfl (Sub.cons rfl Sub.nil)))))))))))))))))))))))))))
            refine st_cut 187 (.bool (decide (0 < ((k : Nat) : Int)) && decide ((one (((i : Nat) : Int) * c.unit)).hi ≤ lastOf r.low.X))) hS ?_ (fun W a hS => ?_)
            ·
             refine st_draw (by kernel_rfl) (by kernel_rfl) hS ?_
             refine qt_v hS rfl rfl (fun W hB hS => run_move hS rfl) fun a hS => qt_v hS rfl rfl (fun W hB hS => run_bin hS rfl rfl rfl) fun a hS => qt_v hS rfl rfl (fun W hB hS => run_move hS rfl) fun a hS => ?_
             refine st_split (d := 173) hS rfl (fun hc13 hS => ?_) (fun hc13 hS => ?_)
             ·
              try simp only [ty] at hc13
              refine qt_v hS (hS.wanted rfl rfl rfl) rfl (fun W hB hS => run_fieldAddr fa31_1 hS rfl) fun a hS => qt_v hS (hS.wanted rfl rfl rfl) rfl (fun W hB hS => run_load_one (i := 2) Tryz.isAgg3 hS rfl rfl rfl) fun a hS => qt_v hS (hS.wanted rfl rfl rfl) rfl (fun W hB hS => run_fieldAddr fa27_5 hS rfl) fun a hS => qt_v hS (hS.wanted rfl rfl rfl) rfl (fun W hB hS => run_fieldAddr fa25_0 hS rfl) fun a hS => qt_v hS (hS.wanted rfl rfl rfl) rfl (fun W hB hS => run_load_one (i := 6) Tryz.isAgg22 hS rfl rfl rfl) fun a hS => qt_v hS (hS.wanted rfl rfl rfl) rfl (fun W hB hS => run_fieldAddr fa27_5 hS rfl) fun a hS => qt_v hS (hS.wanted rfl rfl rfl) rfl (fun W hB hS => run_fieldAddr fa25_0 hS rfl) fun a hS => qt_v hS (hS.wanted rfl rfl rfl) rfl (fun W hB hS => run_load_one (i := 6) Tryz.isAgg22 hS rfl rfl rfl) fun a hS => qt_v hS (hS.wanted rfl rfl rfl) rfl (fun W hB hS => run_len_slice Tryz.underlying22 hS rfl) fun a hS => qt_v hS (hS.wanted rfl rfl rfl) rfl (fun W hB hS => run_sub (t := ((r.low.X.length - 1 : Nat) : Int)) hS rfl rfl (by omega) (by omega) (by omega)) fun a hS => ?_
              obtain ⟨ad7, hA7, hL7⟩ := sl_int (fun W hC => ((fun W hC => (Hr W hC).low) W hC).1) (Below.refl _ _) (i := ((r.low.X.length - 1 : Nat) : Int)) (j := r.low.X.length - 1) (by omega) (by omega)
              refine qt_v hS (hS.wanted rfl rfl rfl) rfl (fun W hB hS => run_indexAddr Tryz.underlying22 Tryz.sizeOf3 hS rfl rfl hA7 (by omega) (by omega)) fun a hS => qt_v hS (hS.wanted rfl rfl rfl) rfl (fun W hB hS => run_load_cell Tryz.isAgg3 hS rfl (hL7 _ hS.below)) fun a hS => qt_v hS (hS.wanted rfl rfl rfl) rfl (fun W hB hS => run_bin hS rfl rfl rfl) fun a hS => qt_v hS rfl rfl (fun W hB hS => run_pick_t hS rfl rfl) fun a hS => qt_nil hS fun W hS => ?_
              have hT : (decide (((one (((i : Nat) : Int) * c.unit))).hi ≤ (ix r.low.X (r.low.X.length - 1)))) = (decide (0 < ((k : Nat) : Int)) && decide ((one (((i : Nat) : Int) * c.unit)).hi ≤ lastOf r.low.X)) := by first | (rw [decide_eq_true (show 0 < ((k : Nat) : Int) by omega), Bool.true_and]; rfl) | rw [decide_eq_false (show ¬ 0 < ((k : Nat) : Int) by omega), Bool.false_and]
              exact cut_end (hS.sub (Sub.cons (congrArg (fun b => some (Value.bool b)) hT) (Sub.cons rfl (Sub.cons rfl (Sub.cons rfl (Sub.cons rfl (Sub.cons rfl (Sub.cons rfl (Sub.cons rfl (Sub.cons rfl (Sub.cons rfl (Sub.cons rfl (Sub.cons rfl (Sub.cons rfl (Sub.cons rfl (Sub.cons rfl (Sub.cons rfl (Sub.cons rfl (Sub.cons rfl (Sub.cons rfl (Sub.cons rfl (Sub.cons rfl (Sub.cons rfl (Sub.cons rfl (Sub.cons rfl (Sub.cons rfl (Sub.cons rfl (Sub.cons rfl (Sub.cons rfl Sub.nil)))))))))))))))))))))))))))))
             ·
              try simp only [ty] at hc13
              refine qt_skip hS (hS.unwanted rfl rfl rfl rfl) rfl fun a hS => qt_skip hS (hS.unwanted rfl rfl rfl rfl) rfl fun a hS => qt_skip hS (hS.unwanted rfl rfl rfl rfl) rfl fun a hS => qt_skip hS (hS.unwanted rfl rfl rfl rfl) rfl fun a hS => qt_skip hS (hS.unwanted rfl rfl rfl rfl) rfl fun a hS => qt_skip hS (hS.unwanted rfl rfl rfl rfl) rfl fun a hS => qt_skip hS (hS.unwanted rfl rfl rfl rfl) rfl fun a hS => qt_skip hS (hS.unwanted rfl rfl rfl rfl) rfl fun a hS => qt_skip hS (hS.unwanted rfl rfl rfl rfl) rfl fun a hS => qt_skip hS (hS.unwanted rfl rfl rfl rfl) rfl fun a hS => qt_skip hS (hS.unwanted rfl rfl rfl rfl) rfl fun a hS => qt_skip hS (hS.unwanted rfl rfl rfl rfl) rfl fun a hS => qt_skip hS (hS.unwanted rfl rfl rfl rfl) rfl fun a hS => qt_v hS rfl rfl (fun W hB hS => run_pick_f hS rfl rfl) fun a hS => qt_nil hS fun W hS => ?_
              have hT : false = (decide (0 < ((k : Nat) : Int)) && decide ((one (((i : Nat) : Int) * c.unit)).hi ≤ lastOf r.low.X)) := by first | (rw [decide_eq_true (show 0 < ((k : Nat) : Int) by omega), Bool.true_and]; rfl) | rw [decide_eq_false (show ¬ 0 < ((k : Nat) : Int) by omega), Bool.false_and]
              exact cut_end (hS.sub (Sub.cons (congrArg (fun b => some (Value.bool b)) hT) (Sub.cons rfl (Sub.cons rfl (Sub.cons rfl (Sub.cons rfl (Sub.cons rfl (Sub.cons rfl (Sub.cons rfl (Sub.cons rfl (Sub.cons rfl (Sub.cons rfl (Sub.cons rfl (Sub.cons rfl (Sub.cons rfl (Sub.cons rfl (Sub.cons rfl (Sub.cons rfl (Sub.cons rfl (Sub.cons rfl (Sub.cons rfl (Sub.cons rfl (Sub.cons rfl (Sub.cons rfl (Sub.cons rfl (Sub.cons rfl (Sub.cons rfl (Sub.cons rfl (Sub.cons rfl Sub.nil)))))))))))))))))))))))))))))
            ·
             refine st_cond hS rfl (fun hc14 => ?_) (fun hc14 => ?_)
             ·
              try simp only [ty] at hc14
              refine wpIn_region_lit ?_
              refine st_v hS rfl rfl (run_load_all (i := 6) Tryz.isAgg27 Tryz.sizeOf27 hS rfl rfl rfl) fun a hS => st_v hS rfl rfl (run_load_all (i := 7) Tryz.isAgg33 Tryz.sizeOf33 hS rfl rfl rfl) fun a hS => st_v hS rfl rfl (run_load_all (i := 2) Tryz.isAgg31 Tryz.sizeOf31 hS rfl rfl rfl) fun a hS => st_v hS rfl rfl (run_load_all (i := 0) Tryz.isAgg31 Tryz.sizeOf31 hS rfl rfl rfl) fun a hS => st_call (rotor_Wake Vr r A (one (((i : Nat) : Int) * c.unit)) (one (((k : Nat) : Int) * c.step)) (Hr _ hS.below)) Tryz.call171 hS rfl rfl rfl fun v W a hR hB hlt hS => ?_
              subst hR
              refine st_v hS rfl rfl (run_move hS rfl) fun a hS => st_v hS rfl rfl (run_extract hS rfl rfl) fun a hS => st_v hS rfl rfl (run_extract hS rfl rfl) fun a hS => st_v hS rfl rfl (run_assign hS rfl) fun a hS => wl_nil ?_
              refine wpIn_region_lit ?_
              refine st_v hS rfl rfl (run_move hS rfl) fun a hS => ?_
              have hK : (wakeV r A (one (((i : Nat) : Int) * c.unit)) (one (((k : Nat) : Int) * c.step))) = wakeAt r c A ((i : Nat) : Int) ((k : Nat) : Int) := by
               have h : (0 < ((k : Nat) : Int) ∧ (((i : Nat) : Int) * c.unit) ≤ lastOf r.low.X) := by have h := hc14; rw [Bool.and_eq_true] at h; exact ⟨of_decide_eq_true h.1, of_decide_eq_true h.2⟩
               unfold wakeAt; rw [if_pos h]
              have hS := hS.turnB (d := 24) rfl hK
              refine st_v hS rfl rfl (run_move hS rfl) fun a hS => ?_
              refine st_buildSlice (pv := [(0, .bool _)]) (fun W => bs178_1_0 _ W) hS rfl rfl rfl fun W a b18 hS => st_appQ (l := ([_, _, _, _, _, _, _, _, _, _] ++ _)) (ys := [wakeAt r c A ((i : Nat) : Int) ((k : Nat) : Int)]) (enc := eBool) (sz := 1) (fun _ => rfl) Tryz.underlying178 (AI.of ai4) (by decide) hS hO3 rfl rfl rfl rfl (src_own (sz := 1) Tryz.underlying178 hS (i := 0) rfl rfl rfl) rfl (by rw [hlk]; omega) fun W a v8 cs8 hO8 ho8 hz8 hS => ?_
              refine st_v hS rfl rfl (run_assign hS rfl) fun a hS => wl_nil ?_
              refine wpIn_region_lit ?_
              refine st_v hS rfl rfl (run_add (t := ((k + 1 : Nat) : Int)) hS rfl rfl (by omega) (by omega) (by omega)) fun a hS => st_v hS rfl rfl (run_move hS rfl) fun a hS => wl_nil ?_
              refine ⟨⟨k + 1, _, _⟩, ⟨⟨by dsimp only; omega, by rw [wakeR_next]; assumption⟩, by dsimp only; omega⟩, (hS.sub (Sub.cons rfl (Sub.cons rfl (Sub.cons rfl (Sub.cons rfl (Sub.cons rfl (Sub.cons rfl (Sub.cons rfl (Sub.cons rfl (Sub.cons rfl (Sub.cons rfl (Sub.cons rfl (Sub.cons rfl (Sub.cons rfl (Sub.cons rfl (Sub.cons rfl (Sub.cons rfl (Sub.cons rfl (Sub.cons rfl (Sub.cons rfl (Sub.cons rfl (Sub.cons rfl (Sub.cons rfl (Sub.cons rfl (Sub.cons rfl Sub.nil))))))))))))))))))))))))).drop (List.Sublist.cons _ (List.Sublist.cons _ (List.Sublist.refl _)))⟩
             ·
              try simp only [ty] at hc14
              refine wpIn_skip ?_
              refine wpIn_region_lit ?_
              refine st_v hS rfl rfl (run_move hS rfl) fun a hS => ?_
              have hK : false = wakeAt r c A ((i : Nat) : Int) ((k : Nat) : Int) := by
               have h : ¬ (0 < ((k : Nat) : Int) ∧ (((i : Nat) : Int) * c.unit) ≤ lastOf r.low.X) := fun h => by
                have h2 : ((decide (0 < ((k : Nat) : Int))) && (decide ((one (((i : Nat) : Int) * c.unit)).hi ≤ lastOf r.low.X))) = true := by rw [decide_eq_true h.1, decide_eq_true (show (one (((i : Nat) : Int) * c.unit)).hi ≤ lastOf r.low.X from h.2)]; rfl
                rw [h2] at hc14; cases hc14
               unfold wakeAt; rw [if_neg h]
              have hS := hS.turnB (d := 24) rfl hK
              refine st_v hS rfl rfl (run_move hS rfl) fun a hS => ?_
              refine st_buildSlice (pv := [(0, .bool _)]) (fun W => bs178_1_0 _ W) hS rfl rfl rfl fun W a b19 hS => st_appQ (l := ([_, _, _, _, _, _, _, _, _, _] ++ _)) (ys := [wakeAt r c A ((i : Nat) : Int) ((k : Nat) : Int)]) (enc := eBool) (sz := 1) (fun _ => rfl) Tryz.underlying178 (AI.of ai4) (by decide) hS hO3 rfl rfl rfl rfl (src_own (sz := 1) Tryz.underlying178 hS (i := 0) rfl rfl rfl) rfl (by rw [hlk]; omega) fun W a v9 cs9 hO9 ho9 hz9 hS => ?_
              refine st_v hS rfl rfl (run_assign hS rfl) fun a hS => wl_nil ?_
              refine wpIn_region_lit ?_
              refine st_v hS rfl rfl (run_add (t := ((k + 1 : Nat) : Int)) hS rfl rfl (by omega) (by omega) (by omega)) fun a hS => st_v hS rfl rfl (run_move hS rfl) fun a hS => wl_nil ?_
              refine ⟨⟨k + 1, _, _⟩, ⟨⟨by dsimp only; omega, by rw [wakeR_next]; assumption⟩, by dsimp only; omega⟩, (hS.sub (Sub.cons rfl (Sub.cons rfl (Sub.cons rfl (Sub.cons rfl (Sub.cons rfl (Sub.cons rfl (Sub.cons rfl (Sub.cons rfl (Sub.cons rfl (Sub.cons rfl (Sub.cons rfl (Sub.cons rfl (Sub.cons rfl (Sub.cons rfl (Sub.cons rfl (Sub.cons rfl (Sub.cons rfl (Sub.cons rfl (Sub.cons rfl (Sub.cons rfl (Sub.cons rfl (Sub.cons rfl (Sub.cons rfl (Sub.cons rfl Sub.nil))))))))))))))))))))))))).drop (List.Sublist.cons _ (List.Sublist.cons _ (List.Sublist.refl _)))⟩
           ·
            try simp only [ty] at hc12
            have ek : k = c.drop.toNat + 1 := by omega
            subst ek
            refine wpIn_exit ?_
            refine wpIn_region_lit ?_
            refine st_v hS rfl rfl (run_move hS rfl) fun a hS => st_v hS rfl rfl (run_move hS rfl) fun a hS => st_v hS rfl rfl (run_nilCheck hS rfl) fun a hS => st_v hS rfl rfl (run_fieldAddr fa143_2 hS rfl) fun a hS => st_v hS rfl rfl (run_load_one (i := 4) Tryz.isAgg95 hS rfl rfl rfl) fun a hS => ?_
            obtain ⟨sr, hsr, hS⟩ := St.freezeQ (enc := eBool) (nn := 1) (bb := 1) (hb := by decide) (hl := fun _ => rfl) (l := [_, _, _, _, _, _, _, _] ++ _) hS hO3 (by rw [wakeR_len]; omega)
            subst hsr
            dsimp only [List.cons_append, List.nil_append] at hS
            refine st_v hS rfl rfl (run_move hS rfl) fun a hS => ?_
            refine st_buildSlice (pv := [(0, .slice _ _ _)]) (fun W => bs95_1_0 _ _ _ W) hS rfl rfl rfl fun W a b20 hS => st_appQ (ys := [(sr, wakeR r c A ((i : Nat) : Int) (c.drop.toNat + 1))]) (enc := eRowB) (sz := 1) (fun _ => rfl) Tryz.underlying95 (AI.of ai178) (by decide) (hS.pl2 (L := [_, _, _, _, _, _, _, _, _])) hOw rfl rfl rfl rfl (src_own (sz := 1) Tryz.underlying95 hS (i := 0) rfl rfl rfl) rfl (by rw [hlw]; omega) fun W a v10 cs10 hO10 ho10 hz10 hS => ?_
            have hS := hS.ql2 (L := [_, _, _, _, _, _, _, _, _])
            refine st_v hS rfl rfl (run_nilCheck hS rfl) fun a hS => st_v hS rfl rfl (run_fieldAddr fa143_2 hS rfl) fun a hS => st_store (vs := [v10]) (i := 5) Tryz.sizeOf95 hS rfl rfl rfl rfl (OwnQ.cells1 hO10) rfl rfl (allc (OwnQ.one1 hO10) rfl) rfl fun W a hS => wl_nil ?_
            try dsimp only [setB] at hS
            refine wpIn_region_lit ?_
            refine st_v hS rfl rfl (run_add (t := ((i + 1 : Nat) : Int)) hS rfl rfl (by omega) (by omega) (by omega)) fun a hS => st_v hS rfl rfl (run_move hS rfl) fun a hS => wl_nil ?_
            have hS := hS.less (Ψ := fun W => _ ∧ (fun (z : Nat × (Value × List Value) × (Value × List Value) × (Value × List Value) × List (SV × List Bool)) (W : World) => ∀ y ∈ z.2.2.2.2, Sl kBool (fun k => w.heap.size ≤ k) W y.1 y.2) (⟨i + 1, ⟨v0', cs0'⟩, ⟨v1', cs1'⟩, ⟨v10, cs10⟩, ys ++ [(sr, wakeR r c A ((i : Nat) : Int) (c.drop.toNat + 1))]⟩) W) (fun W h => ⟨h.1.1, fun y hy => by
              rcases List.mem_append.1 hy with hy | hy
              · exact h.1.2 y hy
              · rw [List.mem_singleton.1 hy]; exact h.2.wide (fun k hk _ => hk.1) (fun _ _ => by decide)⟩)
            refine ⟨⟨i + 1, ⟨v0', cs0'⟩, ⟨v1', cs1'⟩, ⟨v10, cs10⟩, ys ++ [(sr, wakeR r c A ((i : Nat) : Int) (c.drop.toNat + 1))]⟩, ⟨⟨by dsimp only; omega, by dsimp only; rw [rates_next]; exact hR0, by dsimp only; rw [rates_next]; exact hR1, by assumption, by dsimp only; rw [List.map_append, hys, wakesOf_next]; rfl⟩, by dsimp only; omega⟩, (hS.sub (Sub.cons rfl (Sub.cons rfl (Sub.cons rfl (Sub.cons rfl (Sub.cons rfl (Sub.cons rfl (Sub.cons rfl (Sub.cons rfl (Sub.cons rfl (Sub.cons rfl (Sub.cons rfl (Sub.cons rfl (Sub.cons rfl (Sub.cons rfl Sub.nil))))))))))))))).drop (List.Sublist.cons _ (List.Sublist.cons _ (List.Sublist.cons _ (List.Sublist.refl _))))⟩
        ·
         try simp only [ty] at hc10
         exfalso; omega
      ·
       try simp only [ty] at hc9
       exfalso; omega
     ·
      try simp only [ty] at hc8
      have ei : i = c.top.toNat + 1 := by omega
      subst ei
      refine wpIn_exit ?_
      refine wpIn_seq ?_
      refine wpIn_region_lit ?_
      refine st_v hS rfl rfl (run_move hS rfl) fun a hS => st_v hS rfl rfl (run_assign hS rfl) fun a hS => st_v hS rfl rfl (run_assign hS rfl) fun a hS => wl_nil ?_
      refine wpIn_ret ?_
      repeat (first | refine q_ret ?_ | refine q_block_ret ?_)
      refine hS.done (res2 (fn := Tryz.f96) (r1 := .tmp 4) (r2 := .tmp 5) rfl (rv_tmp hS rfl) (rv_tmp hS rfl)) ?_
      have hF := hS.now
      obtain ⟨s0, hs0, hq0⟩ := OwnQ.frozen (enc := eInt) (nn := 1) (bb := 8) (hb := by decide) (hl := fun _ => rfl) (hS.pr0 (L := [_, _, _, _, _, _])) hO0 (by rw [hl0]; omega)
      obtain ⟨s1, hs1, hq1⟩ := OwnQ.frozen (enc := eInt) (nn := 1) (bb := 8) (hb := by decide) (hl := fun _ => rfl) (hS.pr1 (L := [_, _, _, _, _, _])) hO1 (by rw [hl1]; omega)
      obtain ⟨s2, hs2, hq2⟩ := OwnQ.frozen (enc := eRowB) (nn := 1) (bb := 24) (hb := by decide) (hl := fun _ => rfl) (hS.pl2 (L := [_, _, _, _, _, _])) hOw (by rw [hlw]; omega)
      have hcells := hS.cells (i := 2) rfl _ (Below.refl _ _)
      subst hs0 hs1 hs2
      exact ⟨fun h => absurd hE h, fun _ => ⟨⟨Vr, r, s0, s1, s2, ys, ⟨b6, 0, none⟩, ⟨none, 0⟩⟩, rfl, ⟨hcells, hS.old _ (nthB_in (i := 2) rfl), hq0.wide (fun k hk _ => hk.1) (fun _ _ => by decide), hq1.wide (fun k hk _ => hk.1) (fun _ _ => by decide), hq2.wide (fun k hk _ => hk.1) (fun _ _ => by decide), hF.2, hys⟩⟩⟩
end Go.Proofs.YtdnodlgebpnfoaaGreat
namespace Go.Proofs.YtdnodlgebpnfoaaGreat
open Go Go.RowKit Go.Shelf Sw
theorem CrR.rate {F : Nat → Prop} {W : World} {X : CV} {S : Site} (h : CrR F W X S) (e : Bool) : Sl kInt F W (X.rs e) (S.rate e) := by cases e; exact h.all; exact h.single
theorem CrR.rateCell {F : Nat → Prop} {W : World} {X : CV} {S : Site} (h : CrR F W X S) (e : Bool) : W.cell? ((X.p.add 33).add (engN e * 1)) = some (.slice (X.rs e).a (S.rate e).length (X.rs e).c) := by
  rw [add_add]
  cases e
  · exact h.cells 33 _ rfl
  · exact h.cells 34 _ rfl
theorem newCraft_form {r : Rot} {c : Cr} {A : Air} {m0 : Nat} {v : Value} {W : World} (h : (airE r c A ≠ 0 → v = .tuple #[.pointer none, .int .i64 (airE r c A)]) ∧ (airE r c A = 0 → ∃ X : CV, v = .tuple #[.pointer (some X.p), .int .i64 0] ∧ CrR (fun k => m0 ≤ k) W X (siteOf r c A fldD))) :
    ∃ (pv : Option Addr) (X : CV), v = .tuple #[.pointer pv, .int .i64 (airE r c A)] ∧ (airE r c A = 0 → pv = some X.p ∧ CrR (fun k => m0 ≤ k) W X (siteOf r c A fldD)) := by
  by_cases hE : airE r c A = 0
  · obtain ⟨X, h1, h2⟩ := h.2 hE
    exact ⟨some X.p, X, by rw [h1, hE], fun _ => ⟨rfl, h2⟩⟩
  · exact ⟨none, ⟨⟨⟨⟨none, 0⟩, ⟨none, 0⟩, ⟨none, 0⟩⟩, ⟨⟨none, 0⟩, ⟨none, 0⟩, ⟨none, 0⟩⟩, ⟨⟨none, 0⟩, ⟨none, 0⟩, ⟨none, 0⟩⟩, ⟨⟨none, 0⟩, ⟨none, 0⟩, ⟨none, 0⟩⟩, ⟨⟨none, 0⟩, ⟨none, 0⟩, ⟨none, 0⟩⟩, ⟨⟨none, 0⟩, ⟨none, 0⟩, ⟨none, 0⟩⟩, ⟨⟨none, 0⟩, ⟨none, 0⟩, ⟨none, 0⟩⟩, ⟨⟨none, 0⟩, ⟨none, 0⟩, ⟨none, 0⟩⟩⟩, r, ⟨none, 0⟩, ⟨none, 0⟩, ⟨none, 0⟩, [], ⟨0, 0, none⟩, ⟨none, 0⟩⟩, h.1 hE, fun h => absurd h hE⟩
def SiteV (F : Nat → Prop) (e : Int) (S : Site) (v : Value) (W : World) : Prop := ∃ (pv : Option Addr) (x0 x1 x2 : Int) (A0 : Option Addr) (n0 c0 : Nat) (X : CV), v = .tuple #[.agg #[.pointer pv, .int .i64 x0, .int .i64 x1, .int .i64 x2, .slice A0 n0 c0], .int .i64 e] ∧
  (e = 0 → pv = some X.p ∧ x0 = S.f.length ∧ x1 = S.f.clear ∧ x2 = S.f.safe ∧ A0 = X.sf.a ∧ n0 = S.f.hinds.length ∧ c0 = X.sf.c ∧ SiteR F W X S ∧ SiteP S)
theorem St.moreSite {ds : List Nat} {w W : World} {n N : Nat} {a : Act} {κ : KV} {l : List Blk} {Φ : World → Prop} {F : Nat → Prop} {X : CV} {S : Site} {p : Prop} (hS : St ds w W n a κ l Φ) (hN : N = W.heap.size) (h : p → SiteR (fun k => F k ∧ k < W.heap.size) W X S) (hF : ∀ k, F k ∧ k < W.heap.size → ∀ B ∈ l, k ≠ B.b) : St ds w W n a κ l (fun W => Φ W ∧ ((p → SiteR (fun k => F k ∧ k < N) W X S) ∧ N ≤ W.heap.size)) := by
  subst hN
  exact hS.more fun W' ho hz => ⟨fun hp => (h hp).keep fun k hk hlt => ho.same k hlt fun B hB => hF k hk B hB, hz⟩
theorem St.moreCr {ds : List Nat} {w W : World} {n : Nat} {a : Act} {κ : KV} {l : List Blk} {Φ : World → Prop} {F : Nat → Prop} {X : CV} {S : Site} {p : Prop} (hS : St ds w W n a κ l Φ) (h : p → CrR F W X S) (hF : ∀ k, F k → ∀ B ∈ l, k ≠ B.b) : St ds w W n a κ l (fun W => Φ W ∧ (p → CrR F W X S)) :=
  hS.more fun W' ho _ hp => (h hp).keep fun k hk hlt => ho.same k hlt fun B hB => hF k hk B hB
set_option maxHeartbeats 2000000 in
set_option maxRecDepth 100000 in
theorem engine_Rates (Vr : RV) (r : Rot) (c : Cr) (A : Air) {single : Bool} {w : World} {Fr : Nat → Prop} (hr : RotR Fr w Vr r) : Ret Tryz.prog 30 [.agg (craftC Vr r c).toArray, .agg (airC A).toArray, .bool single] w (fun v W' => ∃ s : SV, v = .tuple #[.slice s.a (ratesV r c A single).length s.c, .int .i64 (airE r c A)] ∧ Sl kInt (fun k => w.heap.size ≤ k) W' s (ratesV r c A single)) := by
 refine ret_start (n := 26) Tryz.func30 rfl rfl rfl (fun a hS => ?_)
 have Hr : ∀ W, Below w.heap.size w W → RotR Fr W Vr r := fun W hb => hr.move (keep_of hb)
 refine wpIn_seq ?_
 refine wpIn_region_lit ?_
 refine st_box_agg hS rfl rfl rfl fun W a b0 hS => st_box_agg hS rfl rfl rfl fun W a b1 hS => st_v hS rfl rfl (run_assign hS rfl) fun a hS => st_v hS rfl rfl (run_assign hS rfl) fun a hS => wl_nil ?_
 refine wpIn_seq ?_
 refine wpIn_region_lit ?_
 refine st_v hS rfl rfl (run_load_all (i := 1) Tryz.isAgg29 Tryz.sizeOf29 hS rfl rfl rfl) fun a hS => st_v hS rfl rfl (run_load_all (i := 0) Tryz.isAgg33 Tryz.sizeOf33 hS rfl rfl rfl) fun a hS => ?_
 have hw0 := hS.below.size
 refine st_call (engine_newCraft Vr r c A (Hr _ hS.below)) Tryz.call96 hS rfl rfl rfl fun v W a hR hB hlt hS => ?_
 obtain ⟨pv, X, rfl, hok⟩ := newCraft_form hR
 have hS := hS.moreCr (p := airE r c A = 0) (fun h => (hok h).2) (fun k hk B hB => by have := hlt B hB; omega)
 refine st_v hS rfl rfl (run_move hS rfl) fun a hS => st_v hS rfl rfl (run_extract hS rfl rfl) fun a hS => st_v hS rfl rfl (run_extract hS rfl rfl) fun a hS => st_v hS rfl rfl (run_assign hS rfl) fun a hS => st_v hS rfl rfl (run_assign hS rfl) fun a hS => wl_nil ?_
 refine wpIn_seq ?_
 refine wpIn_seq ?_
 refine wpIn_region_lit ?_
 refine st_v hS rfl rfl (run_move hS rfl) fun a hS => st_v hS rfl rfl (run_bin hS rfl rfl rfl) fun a hS => wl_nil ?_
 refine st_cond hS rfl (fun hc1 => ?_) (fun hc1 => ?_)
 ·
  try simp only [ty] at hc1
  refine wpIn_seq ?_
  refine wpIn_region_lit ?_
  refine st_v hS rfl rfl (run_move hS rfl) fun a hS => st_v hS rfl rfl (run_assign hS rfl) fun a hS => st_v hS rfl rfl (run_assign hS rfl) fun a hS => wl_nil ?_
  refine wpIn_ret ?_
  repeat (first | refine q_ret ?_ | refine q_block_ret ?_)
  refine hS.done (res2 (fn := Tryz.f30) (r1 := .tmp 6) (r2 := .tmp 7) rfl (rv_tmp hS rfl) (rv_tmp hS rfl)) ?_
  have e : ratesV r c A single = [] := if_neg hc1
  rw [e]; exact ⟨⟨none, 0⟩, rfl, sl_nil _ _ _⟩
 ·
  try simp only [ty] at hc1
  have hE0 := hc1
  obtain ⟨rfl, _⟩ := hok hE0
  refine wpIn_skip ?_
  refine wpIn_seq ?_
  refine anyh_start (by kernel_rfl) [true, true] hS fun W hS => ?_
  refine anyh_take (i := 0) [true, true] hS (fun _ h => h) rfl rfl (by kernel_rfl) (by kernel_rfl) (by kernel_rfl) rfl rfl (fun W' hS => run_move hS rfl) fun a hS => ?_
  refine anyh_take (i := 1) [true, true] hS (fun _ h => h) rfl rfl (by kernel_rfl) (by kernel_rfl) (by kernel_rfl) rfl rfl (fun W' hS => run_move hS rfl) fun a hS => ?_
  refine anyh_take (i := 3) [true, true] hS (fun _ h => h) rfl rfl (by kernel_rfl) (by kernel_rfl) (by kernel_rfl) rfl rfl (fun W' hS => run_nilCheck hS rfl) fun a hS => ?_
  refine anyh_take (i := 4) [true, true] hS (fun _ h => h) rfl rfl (by kernel_rfl) (by kernel_rfl) (by kernel_rfl) rfl rfl (fun W' hS => run_fieldAddrE fe143_1 hS rfl) fun a hS => ?_
  refine anyh_go (rs := [2]) (by kernel_rfl) (by simp) ⟨⟨_, rfl, ?_⟩, trivial⟩
  refine st_call (engine_engines) Tryz.call97 hS rfl rfl rfl fun v W a hR hB hlt hS => ?_
  subst hR
  refine wl_nil ?_
  refine anyh_next [true, true] hS (fun _ h => h) rfl ?_
  refine anyh_take (i := 5) [true, true] hS (fun _ h => h) rfl rfl (by kernel_rfl) (by kernel_rfl) (by kernel_rfl) rfl rfl (fun W' hS => run_idxArrE Tryz.underlying141 Tryz.sizeOf22 hS rfl rfl rfl (by cases single <;> decide)) fun a hS => ?_
  refine anyh_take (i := 6) [true, true] hS (fun _ h => h) rfl rfl (by kernel_rfl) (by kernel_rfl) (by kernel_rfl) rfl rfl (fun W' hS => run_load_cell Tryz.isAgg22 hS rfl ((fun W hC => ((fun W (hC : airE r c A = 0 → CrR _ W X (siteOf r c A fldD)) => hC hE0) W hC).rateCell single) _ hS.now.2)) fun a hS => ?_
  refine anyh_take (i := 7) [true, true] hS (fun _ h => h) rfl rfl (by kernel_rfl) (by kernel_rfl) (by kernel_rfl) rfl rfl (fun W' hS => run_assign hS rfl) fun a hS => ?_
  refine anyh_take (i := 8) [true, true] hS (fun _ h => h) rfl rfl (by kernel_rfl) (by kernel_rfl) (by kernel_rfl) rfl rfl (fun W' hS => run_assign hS rfl) fun a hS => ?_
  refine anyh_done (by kernel_rfl) ?_ _
  refine wpIn_ret ?_
  repeat (first | refine q_ret ?_ | refine q_block_ret ?_)
  refine hS.done (res2 (fn := Tryz.f30) (r1 := .tmp 6) (r2 := .tmp 7) rfl (rv_tmp hS rfl) (rv_tmp hS rfl)) ?_
  have e : ratesV r c A single = ratesOf r c A single (c.top.toNat + 1) := if_pos hE0
  rw [e, hE0]
  have hq := (hS.now.2 hE0).rate single
  have e2 : (siteOf r c A fldD).rate single = ratesOf r c A single (c.top.toNat + 1) := by cases single <;> rfl
  rw [e2] at hq hS ⊢
  exact ⟨_, rfl, hq.wide (fun k hk _ => Nat.le_trans hw0 hk) (fun _ _ => by decide)⟩
set_option maxHeartbeats 2000000 in
set_option maxRecDepth 100000 in
theorem engine_newSite (Vr : RV) (r : Rot) (c : Cr) (A : Air) (sf : SV) (f : Fld) {w : World} {Fr : Nat → Prop} (hr : RotR Fr w Vr r) {Ff : Nat → Prop} (hf : Sl kHind Ff w sf f.hinds) : Ret Tryz.prog 127 [.agg (craftC Vr r c).toArray, .agg (airC A).toArray, .agg (fldC sf f).toArray] w (fun v W' => SiteV (fun k => (Ff k ∧ k < w.heap.size) ∨ w.heap.size ≤ k) (allE r c A f) (siteOf r c A f) v W') := by
 refine ret_start (n := 25) Tryz.func127 rfl rfl rfl (fun a hS => ?_)
 have Hr : ∀ W, Below w.heap.size w W → RotR Fr W Vr r := fun W hb => hr.move (keep_of hb)
 have hf := hf.deep (by decide)
 have Hf : ∀ W, Below w.heap.size w W → Sl kHind (fun k => Ff k ∧ k < w.heap.size) W sf f.hinds := fun W hb => hf.at_ hb
 have hmf := hf.len
 refine wpIn_seq ?_
 refine wpIn_region_lit ?_
 refine st_box_agg hS rfl rfl rfl fun W a b0 hS => st_box_agg hS rfl rfl rfl fun W a b1 hS => st_box_agg hS rfl rfl rfl fun W a b2 hS => st_alloc_agg Tryz.zeroValue111 hS rfl rfl fun W a b3 hS => st_v hS rfl rfl (run_assign hS rfl) fun a hS => wl_nil ?_
 refine wpIn_seq ?_
 refine wpIn_region_lit ?_
 refine st_v hS rfl rfl (run_load_all (i := 3) Tryz.isAgg29 Tryz.sizeOf29 hS rfl rfl rfl) fun a hS => st_v hS rfl rfl (run_load_all (i := 2) Tryz.isAgg33 Tryz.sizeOf33 hS rfl rfl rfl) fun a hS => ?_
 have hw0 := hS.below.size
 refine st_call (engine_newCraft Vr r c A (Hr _ hS.below)) Tryz.call96 hS rfl rfl rfl fun v W a hR hB hlt hS => ?_
 obtain ⟨pv, X, rfl, hok⟩ := newCraft_form hR
 have hS := hS.moreCr (p := airE r c A = 0) (fun h => (hok h).2) (fun k hk B hB => by have := hlt B hB; omega)
 refine st_v hS rfl rfl (run_move hS rfl) fun a hS => st_v hS rfl rfl (run_extract hS rfl rfl) fun a hS => st_v hS rfl rfl (run_extract hS rfl rfl) fun a hS => st_v hS rfl rfl (run_assign hS rfl) fun a hS => st_v hS rfl rfl (run_assign hS rfl) fun a hS => wl_nil ?_
 refine wpIn_seq ?_
 refine wpIn_seq ?_
 refine wpIn_region_lit ?_
 refine st_v hS rfl rfl (run_move hS rfl) fun a hS => st_v hS rfl rfl (run_bin hS rfl rfl rfl) fun a hS => wl_nil ?_
 refine st_cond hS rfl (fun hc1 => ?_) (fun hc1 => ?_)
 ·
  try simp only [ty] at hc1
  refine wpIn_seq ?_
  refine wpIn_region_lit ?_
  refine st_v hS rfl rfl (run_build (pv := []) (fun W => bd111_ W) hS rfl) fun a hS => st_v hS rfl rfl (run_move hS rfl) fun a hS => st_store (i := 0) Tryz.sizeOf111 hS rfl rfl rfl rfl rfl rfl rfl rfl rfl fun W a hS => st_v hS rfl rfl (run_assign hS rfl) fun a hS => wl_nil ?_
  refine wpIn_ret ?_
  repeat (first | refine q_ret ?_ | refine q_block_ret ?_)
  refine hS.done (res2 (fn := Tryz.f127) (r1 := .cell 6 111) (r2 := .tmp 7) rfl (rv_agg (i := 0) Tryz.isAgg111 Tryz.sizeOf111 hS rfl rfl rfl) (rv_tmp hS rfl)) ?_
  have e : allE r c A f = airE r c A := by unfold allE; rw [if_neg hc1]
  rw [e]
  exact ⟨none, 0, 0, 0, none, 0, 0, X, rfl, fun h => absurd h hc1⟩
 ·
  try simp only [ty] at hc1
  have hE0 := hc1
  obtain ⟨rfl, _⟩ := hok hE0
  refine wpIn_skip ?_
  refine wpIn_seq ?_
  refine anyh_start (by kernel_rfl) [false, true, true, true] hS fun W hS => ?_
  refine anyh_take (i := 0) [false, true, true, true] hS (fun _ h => h) rfl rfl (by kernel_rfl) (by kernel_rfl) (by kernel_rfl) rfl rfl (fun W' hS => run_move hS rfl) fun a hS => ?_
  refine anyh_take (i := 1) [false, true, true, true] hS (fun _ h => h) rfl rfl (by kernel_rfl) (by kernel_rfl) (by kernel_rfl) rfl rfl (fun W' hS => run_load_all (i := 0) Tryz.isAgg36 Tryz.sizeOf36 hS rfl rfl rfl) fun a hS => ?_
  refine anyh_take (i := 2) [false, true, true, true] hS (fun _ h => h) rfl rfl (by kernel_rfl) (by kernel_rfl) (by kernel_rfl) rfl rfl (fun W' hS => run_build (pv := [(0, .pointer _), (1, .agg #[.int .i64 _, .int .i64 _, .int .i64 _, .slice _ _ _])]) (fun W => bd111_0_1 _ _ _ _ _ _ _ W) hS rfl) fun a hS => ?_
  refine anyh_take (i := 3) [false, true, true, true] hS (fun _ h => h) rfl rfl (by kernel_rfl) (by kernel_rfl) (by kernel_rfl) rfl rfl (fun W' hS => run_load_all (i := 0) Tryz.isAgg36 Tryz.sizeOf36 hS rfl rfl rfl) fun a hS => ?_
  refine anyh_go (rs := [4]) (by kernel_rfl) (by simp) ⟨⟨_, rfl, ?_⟩, trivial⟩
  refine st_call (engine_checkField sf f (Hf _ hS.below)) Tryz.call121 hS rfl rfl rfl fun v W a hR hB hlt hS => ?_
  subst hR
  refine wl_nil ?_
  refine anyh_next [false, true, true, true] hS (fun _ h => h) rfl ?_
  refine anyh_go (rs := [5]) (by kernel_rfl) (by simp) ⟨⟨_, rfl, ?_⟩, trivial⟩
  refine st_store (i := 0) Tryz.sizeOf111 hS rfl rfl rfl rfl rfl rfl rfl rfl rfl fun W a hS => wl_nil ?_
  refine anyh_next [false, true, true, true] hS (fun _ h => h) rfl ?_
  refine anyh_take (i := 6) [false, true, true, true] hS (fun _ h => h) rfl rfl (by kernel_rfl) (by kernel_rfl) (by kernel_rfl) rfl rfl (fun W' hS => run_assign hS rfl) fun a hS => ?_
  refine anyh_done (by kernel_rfl) ?_ _
  refine wpIn_ret ?_
  repeat (first | refine q_ret ?_ | refine q_block_ret ?_)
  refine hS.done (res2 (fn := Tryz.f127) (r1 := .cell 6 111) (r2 := .tmp 7) rfl (rv_agg (i := 0) Tryz.isAgg111 Tryz.sizeOf111 hS rfl rfl rfl) (rv_tmp hS rfl)) ?_
  have e : allE r c A f = fldE f := by unfold allE; rw [if_pos hE0]
  rw [e]
  exact ⟨some X.p, f.length, f.clear, f.safe, sf.a, f.hinds.length, sf.c, { X with sf := sf }, rfl, fun _ => ⟨rfl, rfl, rfl, rfl, rfl, rfl, rfl, (CrR.site (hS.now.2 hE0) ((Hf _ hS.below).wide (fun k hk _ => .inl hk) (fun _ _ => by decide)) (fun k hk => .inr (Nat.le_trans hw0 hk))), siteOf_p hE0⟩⟩
end Go.Proofs.YtdnodlgebpnfoaaGreat
namespace Go.Proofs.YtdnodlgebpnfoaaGreat
open Go Go.RowKit Go.Shelf Sw
structure CovM (F : Nat → Prop) (X : CV) (S : Site) (p1 p2 : Addr) (m : Nat) (W : World) : Prop where
  site : SiteR F W X S
  c1 : CellsAt W p1 (siteC X S)
  c2 : W.cell? p2 = some (.map (some m))
  known : ∃ K, MapAt W m (kM K) ∧ Snd S K
theorem CovM.later {F : Nat → Prop} {X : CV} {S : Site} {p1 p2 : Addr} {m : Nat} {A B : World} (h : CovM F X S p1 p2 m A) (hb : Below A.heap.size A B) : CovM F X S p1 p2 m B := by
  obtain ⟨K, h1, h2⟩ := h.known
  exact ⟨h.site.at_ hb, h.c1.at_ hb, cell_at h.c2 hb, K, h1.later hb, h2⟩
theorem CovM.map {F : Nat → Prop} {X : CV} {S : Site} {p1 p2 : Addr} {m : Nat} {A : World} (h : CovM F X S p1 p2 m A) : ∃ en c, A.heap[m]? = some (.map en c) := by
  obtain ⟨K, ⟨en, c, h1, _⟩, _⟩ := h.known; exact ⟨en, c, h1⟩
theorem CovM.lt {F : Nat → Prop} {X : CV} {S : Site} {p1 p2 : Addr} {m : Nat} {A : World} (h : CovM F X S p1 p2 m A) : m < A.heap.size := by
  obtain ⟨K, h1, _⟩ := h.known; exact h1.lt
theorem covers_m {F : Nat → Prop} {X : CV} {S : Site} {p1 p2 : Addr} {m : Nat} {p : Pose} {w : World} (h : CovM F X S p1 p2 m w) (hP : SiteP S) (hv : validP S p = true) :
    RetX Tryz.prog 200 [.agg (poseC p).toArray, .pointer (some p2), .pointer (some p1)] (fun k => k = m) w (fun v W' => v = .bool (Cov S p) ∧ CovM F X S p1 p2 m W') := by
  obtain ⟨K, h1, h2⟩ := h.known
  refine (covers_is h.c1 h.c2 h.site h1 hP hv h2).mono (fun _ h => h) fun v W' hk hR => ⟨hR.1, ?_⟩
  have hkp := hk.kp (fun k e => by subst e; exact h.map)
  exact ⟨h.site.kp hkp (fun _ _ h => h), hkp.cellsAt h.c1 (fun h => h), hkp.cell h.c2 (fun h => h), hR.2⟩
theorem CovM.agree {F : Nat → Prop} {X : CV} {S : Site} {p1 p2 : Addr} {m N : Nat} {A B : World} (h : CovM F X S p1 p2 m A) (hF : ∀ k, F k → k < N) (h1 : p1.block < N) (h2 : p2.block < N) (hm : m < N) (ha : Agree N A B) : CovM F X S p1 p2 m B := by
  obtain ⟨K, h3, h4⟩ := h.known
  refine ⟨h.site.keep (fun k hk _ => ha k (hF k hk)), fun i u hu => cell_same (h.c1 i u hu) (by rw [add_block]; exact ha _ h1), cell_same h.c2 (ha _ h2), K, h3.agree hm ha, h4⟩
theorem way_covered {F : Nat → Prop} {X : CV} {S : Site} {p1 p2 : Addr} {m : Nat} {p0 : Pose} {e : Bool} {fe : FuncId} {fie cape : List Value} {fin : Pose → Bool} {w : World} (h : CovM F X S p1 p2 m w) (hP : SiteP S) (hv : validP S p0 = true) (hF : ∀ k, F k → k < w.heap.size ∧ k ≠ m)
    (hfe : Enters Tryz.prog fe) (hend : ∀ W, SiteR F W X S → ∀ p, validP S p = true → Ret Tryz.prog fe (fie ++ [.agg (poseC p).toArray] ++ cape) W (fun v _ => v = .bool (fin p))) :
    RetX Tryz.prog 128 [.agg (siteC X S).toArray, .agg (poseC p0).toArray, .int .i64 ((engN e : Nat) : Int), .func (.func fe) fie.toArray cape.toArray, .func (.func 200) #[] #[.pointer (some p2), .pointer (some p1)]] (fun k => k = m) w
      (fun v W' => CovM F X S p1 p2 m W' ∧ ∃ s : SV, v = .tuple #[.slice s.a ((wayP (stepsL S e) fin (Cov S) p0).getD []).length s.c, .bool (wayP (stepsL S e) fin (Cov S) p0).isSome] ∧ Sl kPose (fun k => w.heap.size ≤ k) W' s ((wayP (stepsL S e) fin (Cov S) p0).getD [])) :=
  engine_way (T := fun k => k = m) (I := CovM F X S p1 p2 m) (capp := [.pointer (some p2), .pointer (some p1)]) h.site hP hv
    (fun A B hA ha => hA.agree (fun k hk => (hF k hk).1) (by have := cell_lt (h.c1 0 _ rfl); rwa [add_block] at this) (cell_lt h.c2) h.lt ha) h (fun k hk => by rw [hk]; exact h.lt) (fun A k hA hk => by rw [hk]; exact hA.map) (fun k hk => (hF k hk).2)
    hfe (fun W _ hW p hp => hend W hW.site p hp) Tryz.call200 (fun W _ hW q hq => covers_m hW hP hq)
theorem St.farM {ds : List Nat} {w W W' : World} {n : Nat} {a : Act} {κ : KV} {l : List Blk} {Φ Ψ : World → Prop} {m : Nat} (hS : St ds w W n a κ l Φ) (hk : KX (fun k => k = m) W W') (hm : w.heap.size ≤ m) (hM : ∃ en c, W.heap[m]? = some (.map en c)) (hΨ : ∀ W2 o, Φ (W2.putObj m o) → Ψ W2) : St ds w W' n a κ l Ψ := by
  obtain ⟨en, ck, hM⟩ := hM
  have hne : ∀ B ∈ l, B.b ≠ m := fun B hB e => by have := hS.blk B hB; rw [e, hM] at this; cases this
  refine ⟨hS.size, ⟨hS.defers.1, fun D hD => ?_⟩, hS.get, ?_, fun B hB => ?_, hS.old, hS.dist, fun W2 ho hz => ?_⟩
  · have h1 := hS.defers.2 D hD
    refine ⟨h1.1, ?_⟩
    rw [hk.same D (Array.getElem?_eq_some_iff.1 h1.2).1 (fun e => by rw [e, hM] at h1; cases h1.2)]; exact h1.2
  · exact hS.below.trans ⟨hk.os, hk.tape, hk.output, hk.size, fun k hk' => hk.same k (by have := hS.below.size; omega) (by omega)⟩
  · rw [hk.same B.b (hS.lt hB) (hne B hB)]; exact hS.blk B hB
  · have hmW := (Array.getElem?_eq_some_iff.1 hM).1
    refine hΨ W2 (.map en ck) (hS.fact _ ⟨ho.os.trans hk.os, ho.tape.trans hk.tape, ho.output.trans hk.output, fun k hk' hn => ?_⟩ (by have := Nat.le_trans hk.size hz; simpa [World.putObj] using this))
    by_cases e : k = m
    · subst e; rw [World.putObj_heap_same (by have := hk.size; omega), hM]
    · rw [World.putObj_heap_other e, ho.same k (Nat.lt_of_lt_of_le hk' hk.size) hn, hk.same k hk' e]
theorem st_callM {P : Program} {r : Option Nat} {mm : Nat} {ops : Array Oper} {Q : Exit → Act → World → Prop} {rest : List Oper} {ds : List Nat} {w W : World} {n d : Nat} {a : Act} {κ : KV} {l : List Blk} {Φ : World → Prop} {ty : TypeId} {pos : String} {af : Array Edge} {g : Option (Nat × Bool)}
    {f : FuncId} {args : Array Operand} {vs : List Value} {tys : Array TypeId} {R : Value → World → Prop} {m : Nat} {Ψ : World → Prop} (hc : RetX P f vs (fun k => k = m) W R) (hf : Enters P f) (hS : St ds w W n a κ l Φ)
    (hw : Region.wanted ⟨some d, .call { callee := .value (.func f), args := args, argTypes := tys }, ty, pos, af, g⟩ (yielded ops a.tmps) = true) (hd : Nat.blt d n = true) (hx : evs κ args.toList = some vs) (hm : w.heap.size ≤ m) (hM : ∃ en c, W.heap[m]? = some (.map en c)) (hΨ : ∀ W2 o, Φ (W2.putObj m o) → Ψ W2)
    (K : ∀ v W' a, R v W' → KX (fun k => k = m) W W' → (∀ B ∈ l, B.b < W.heap.size) → St ds w W' n a ((d, v) :: κ) l Ψ → wpListIn (Fw r) mm P ops Q rest a W') :
    wpListIn (Fw r) mm P ops Q (⟨some d, .call { callee := .value (.func f), args := args, argTypes := tys }, ty, pos, af, g⟩ :: rest) a W := by
  refine wl_enter (f := f) (args := vs.toArray) hw (by simp) ?_ hc ?_
  · have h1 : args.map a.eval = vs.toArray := by rw [← hS.evs hx, ← Array.toList_map]
    simp only [execOp, resolve, Act.eval, Deferred.ofValue]
    have h2 := hf vs.toArray W
    simp [invoke, h1, h2]
  · rintro e W' ⟨v, rfl, hb, hR⟩
    exact ⟨v, rfl, K v W' _ hR hb (fun B hB => hS.lt hB) ((hS.farM hb hm hM hΨ).put hd v)⟩
theorem CovM.off {F : Nat → Prop} {X : CV} {S : Site} {p1 p2 : Addr} {m : Nat} {W W' : World} {l : List Blk} (h : CovM F X S p1 p2 m W) (ho : Off l W W') (hn : ∀ B ∈ l, B.b ≠ p1.block ∧ B.b ≠ p2.block ∧ B.b ≠ m) (hs : SiteR F W' X S) : CovM F X S p1 p2 m W' := by
  have hl1 : p1.block < W.heap.size := by have := cell_lt (h.c1 0 _ rfl); rwa [add_block] at this
  obtain ⟨K, ⟨en, c, h3, h5⟩, h4⟩ := h.known
  refine ⟨hs, fun i u hu => cell_same (h.c1 i u hu) (by rw [add_block]; exact ho.same _ hl1 (fun B hB e => (hn B hB).1 e.symm)), cell_same h.c2 (ho.same _ (cell_lt h.c2) (fun B hB e => (hn B hB).2.1 e.symm)), K, ⟨en, c, ?_, h5⟩, h4⟩
  rw [ho.same m (Array.getElem?_eq_some_iff.1 h3).1 (fun B hB e => (hn B hB).2.2 e.symm)]; exact h3
theorem site_ind {F : Nat → Prop} {X : CV} {S : Site} {p : Prop} {m N : Nat} {W : World} {o : Obj} (h : (p → SiteR (fun k => F k ∧ k < N) (W.putObj m o) X S) ∧ N ≤ (W.putObj m o).heap.size) (hm : N ≤ m) : (p → SiteR (fun k => F k ∧ k < N) W X S) ∧ N ≤ W.heap.size :=
  ⟨fun hp => (h.1 hp).keep fun k hk _ => (World.putObj_heap_other (by have := hk.2; omega)).symm, by simpa [World.putObj] using h.2⟩
def fndS (s : SV) (b : Bool) : SV := if b then s else ⟨none, 0⟩
theorem fnd_form {s : SV} {o : Option (List Pose)} : (if o.isSome then Value.tuple #[.slice s.a (o.getD []).length s.c, .int .i64 0] else .tuple #[.slice none 0 0, .int .i64 3]) = .tuple #[.slice (fndS s o.isSome).a (o.getD []).length (fndS s o.isSome).c, .int .i64 (if o.isSome then 0 else 3)] := by
  cases o <;> rfl
theorem fnd_sl {F : Nat → Prop} {W : World} {s : SV} {o : Option (List Pose)} (h : Sl kPose F W s (o.getD [])) : Sl kPose F W (fndS s o.isSome) (o.getD []) := by
  cases o
  · exact sl_nil _ _ _
  · exact h
def orig : Pose := ⟨0, 0, 0⟩
def departW (r : Rot) (c : Cr) (A : Air) (f : Fld) : Option (List Pose) := if allE r c A f = 0 then wayP (stepsL (siteOf r c A f) false) (awayP (siteOf r c A f)) (Cov (siteOf r c A f)) orig else none
def departL (r : Rot) (c : Cr) (A : Air) (f : Fld) : List Pose := (departW r c A f).getD []
def departE (r : Rot) (c : Cr) (A : Air) (f : Fld) : Int := if allE r c A f = 0 then (if (departW r c A f).isSome then 0 else 3) else allE r c A f
set_option maxHeartbeats 8000000 in
set_option maxRecDepth 100000 in
theorem engine_Depart (Vr : RV) (r : Rot) (c : Cr) (A : Air) (sf : SV) (f : Fld) {w : World} {Fr : Nat → Prop} (hr : RotR Fr w Vr r) {Ff : Nat → Prop} (hf : Sl kHind Ff w sf f.hinds) : Ret Tryz.prog 50 [.agg (craftC Vr r c).toArray, .agg (airC A).toArray, .agg (fldC sf f).toArray] w (fun v W' => ∃ s : SV, v = .tuple #[.slice s.a (departL r c A f).length s.c, .int .i64 (departE r c A f)] ∧ Sl kPose (fun k => w.heap.size ≤ k) W' s (departL r c A f)) := by
 refine ret_start (n := 32) Tryz.func50 rfl rfl rfl (fun a hS => ?_)
 have Hr : ∀ W, Below w.heap.size w W → RotR Fr W Vr r := fun W hb => hr.move (keep_of hb)
 have hf := hf.deep (by decide)
 have Hf : ∀ W, Below w.heap.size w W → Sl kHind (fun k => Ff k ∧ k < w.heap.size) W sf f.hinds := fun W hb => hf.at_ hb
 have hmf := hf.len
 refine wpIn_seq ?_
 refine wpIn_region_lit ?_
 refine st_box_agg hS rfl rfl rfl fun W a b0 hS => st_box_agg hS rfl rfl rfl fun W a b1 hS => st_box_agg hS rfl rfl rfl fun W a b2 hS => st_v hS rfl rfl (run_assign hS rfl) fun a hS => st_v hS rfl rfl (run_assign hS rfl) fun a hS => wl_nil ?_
 refine wpIn_seq ?_
 refine wpIn_region_lit ?_
 refine st_v hS rfl rfl (run_load_all (i := 2) Tryz.isAgg29 Tryz.sizeOf29 hS rfl rfl rfl) fun a hS => st_v hS rfl rfl (run_load_all (i := 1) Tryz.isAgg33 Tryz.sizeOf33 hS rfl rfl rfl) fun a hS => st_v hS rfl rfl (run_load_all (i := 0) Tryz.isAgg36 Tryz.sizeOf36 hS rfl rfl rfl) fun a hS => ?_
 refine st_call (engine_newSite Vr r c A sf f (Hr _ hS.below) (Hf _ hS.below)) Tryz.call127 hS rfl rfl rfl fun v W a hR hB hlt hS => ?_
 obtain ⟨pv, x0, x1, x2, A0, n0, c0, X, rfl, hok⟩ := hR
 obtain ⟨N1, hN1⟩ : ∃ n, n = W.heap.size := ⟨_, rfl⟩
 have hwN := hS.below.size
 rw [← hN1] at hwN
 have hS := hS.moreSite (p := allE r c A f = 0) (X := X) (S := (siteOf r c A f)) hN1 (fun h => (hok h).2.2.2.2.2.2.2.1.deep) (fun k hk B hB => by
   have h1 := hlt B hB
   have h2 := hS.old B hB
   obtain ⟨hk, _⟩ := hk
   rcases hk with ⟨⟨_, hk⟩, _⟩ | hk <;> omega)
 refine st_v hS rfl rfl (run_move hS rfl) fun a hS => st_v hS rfl rfl (run_extract hS rfl rfl) fun a hS => st_v hS rfl rfl (run_extract hS rfl rfl) fun a hS => st_alloc_agg Tryz.zeroValue111 hS rfl rfl fun W a b3 hS => st_store (i := 0) Tryz.sizeOf111 hS rfl rfl rfl rfl rfl rfl rfl rfl rfl fun W a hS => st_v hS rfl rfl (run_assign hS rfl) fun a hS => wl_nil ?_
 refine wpIn_seq ?_
 refine wpIn_seq ?_
 refine wpIn_region_lit ?_
 refine st_v hS rfl rfl (run_move hS rfl) fun a hS => st_v hS rfl rfl (run_bin hS rfl rfl rfl) fun a hS => wl_nil ?_
 refine st_cond hS rfl (fun hc1 => ?_) (fun hc1 => ?_)
 ·
  try simp only [ty] at hc1
  refine wpIn_seq ?_
  refine wpIn_region_lit ?_
  refine st_v hS rfl rfl (run_move hS rfl) fun a hS => st_v hS rfl rfl (run_assign hS rfl) fun a hS => st_v hS rfl rfl (run_assign hS rfl) fun a hS => wl_nil ?_
  refine wpIn_ret ?_
  repeat (first | refine q_ret ?_ | refine q_block_ret ?_)
  refine hS.done (res2 (fn := Tryz.f50) (r1 := .tmp 6) (r2 := .tmp 7) rfl (rv_tmp hS rfl) (rv_tmp hS rfl)) ?_
  have e1 : departL r c A f = [] := by unfold departL departW; rw [if_neg hc1]; rfl
  have e2 : departE r c A f = allE r c A f := if_neg hc1
  rw [e1, e2]; exact ⟨⟨none, 0⟩, rfl, sl_nil _ _ _⟩
 ·
  try simp only [ty] at hc1
  have hE0 := hc1
  obtain ⟨rfl, rfl, rfl, rfl, rfl, rfl, rfl, _, hP⟩ := hok hE0
  refine wpIn_skip ?_
  refine wpIn_seq ?_
  refine anyh_start (by kernel_rfl) [true, true, true, true] hS fun W hS => ?_
  refine anyh_take (i := 0) [true, true, true, true] hS (fun _ h => h) rfl rfl (by kernel_rfl) (by kernel_rfl) (by kernel_rfl) rfl rfl (fun W' hS => run_load_all (i := 0) Tryz.isAgg111 Tryz.sizeOf111 hS rfl rfl rfl) fun a hS => ?_
  refine anyh_take (i := 1) [true, true, true, true] hS (fun _ h => h) rfl rfl (by kernel_rfl) (by kernel_rfl) (by kernel_rfl) rfl rfl (fun W' hS => run_build (pv := []) (fun W => bd38_ W) hS rfl) fun a hS => ?_
  refine anyh_take (i := 2) [true, true, true, true] hS (fun _ h => h) rfl rfl (by kernel_rfl) (by kernel_rfl) (by kernel_rfl) rfl rfl (fun W' hS => run_load_all (i := 0) Tryz.isAgg111 Tryz.sizeOf111 hS rfl rfl rfl) fun a hS => ?_
  refine anyh_take (i := 3) [true, true, true, true] hS (fun _ h => h) rfl rfl (by kernel_rfl) (by kernel_rfl) (by kernel_rfl) rfl rfl (fun W' hS => run_makeFunc hS rfl rfl) fun a hS => ?_
  refine anyh_take (i := 4) [true, true, true, true] hS (fun _ h => h) rfl rfl (by kernel_rfl) (by kernel_rfl) (by kernel_rfl) rfl rfl (fun W' hS => run_load_all (i := 0) Tryz.isAgg111 Tryz.sizeOf111 hS rfl rfl rfl) fun a hS => ?_
  refine anyh_go (rs := [5]) (by kernel_rfl) (by simp) ⟨⟨_, rfl, ?_⟩, trivial⟩
  have hq0 := hS.now.2
  refine st_call (engine_covers X (siteOf r c A f)) Tryz.call130 hS rfl rfl rfl fun v W a hR hB hlt hS => ?_
  obtain ⟨p1, p2, m1, rfl, ⟨hcc1, hcc2, hm1⟩, hp1, hp2, hmm⟩ := hR
  have hcov : CovM _ X (siteOf r c A f) p1 p2 m1 W := ⟨(hq0.1 hE0).at_ hB, hcc1, hcc2, [], hm1, Snd.nil _⟩
  have hN2 : N1 ≤ m1 := Nat.le_trans hq0.2 hmm
  have hS := hS.more (Ψ := CovM _ X (siteOf r c A f) p1 p2 m1) (fun W' ho hz => hcov.off ho (fun B hB => by have := hlt B hB; exact ⟨by omega, by omega, by omega⟩) ((hS.fact W' ho hz).2.1 hE0))
  refine wl_nil ?_
  refine anyh_next [true, true, true, true] hS (fun _ h => h.1) rfl ?_
  refine anyh_go (rs := [6]) (by kernel_rfl) (by simp) ⟨⟨_, rfl, ?_⟩, trivial⟩
  have hq1 := hS.now.2
  have hwm := hS.below.size
  refine st_callM (way_covered (fin := awayP (siteOf r c A f)) (e := false) (fie := [.agg (siteC X (siteOf r c A f)).toArray]) (cape := []) hq1 hP (p0 := orig) (by rw [validP_iff]; have := hP.cr.top; simp only [orig]; omega) (fun k hk => ⟨by have := hk.2; have := hq1.lt; omega, by have := hk.2; omega⟩) Tryz.call129 (fun W hs p hp => engine_away X (siteOf r c A f) p hs hP (by have := validP_iff.1 hp; omega))) Tryz.call128 hS rfl rfl rfl (by omega) hq1.map (fun W2 o h => (⟨h.1.1, site_ind h.1.2 hN2⟩ : _ ∧ _)) (fun v W a hR hk hlt hS => ?_)
  obtain ⟨_, s4, rfl, hs4⟩ := hR
  have hS := hS.moreSl hlt hs4
  refine wl_nil ?_
  refine anyh_next [true, true, true, true] hS (fun _ h => h.1) rfl ?_
  refine anyh_take (i := 7) [true, true, true, true] hS (fun _ h => h.1) rfl rfl (by kernel_rfl) (by kernel_rfl) (by kernel_rfl) rfl rfl (fun W' hS => run_extract hS rfl rfl) fun a hS => ?_
  refine anyh_take (i := 8) [true, true, true, true] hS (fun _ h => h.1) rfl rfl (by kernel_rfl) (by kernel_rfl) (by kernel_rfl) rfl rfl (fun W' hS => run_extract hS rfl rfl) fun a hS => ?_
  refine anyh_go (rs := [9]) (by kernel_rfl) (by simp) ⟨⟨_, rfl, ?_⟩, trivial⟩
  refine st_call (engine_found _ _) Tryz.call75 hS rfl rfl rfl fun v W a hR hB hlt hS => ?_
  have hR := hR.trans (fnd_form (s := s4) (o := (wayP (stepsL (siteOf r c A f) false) (awayP (siteOf r c A f)) (Cov (siteOf r c A f)) orig)))
  subst hR
  have hS := hS.less (fun W h => (⟨h.1, fnd_sl h.2⟩ : _ ∧ Sl kPose _ W (fndS s4 (wayP (stepsL (siteOf r c A f) false) (awayP (siteOf r c A f)) (Cov (siteOf r c A f)) orig).isSome) ((wayP (stepsL (siteOf r c A f) false) (awayP (siteOf r c A f)) (Cov (siteOf r c A f)) orig).getD [])))
  refine wl_nil ?_
  refine anyh_next [true, true, true, true] hS (fun _ h => h.1) rfl ?_
  refine anyh_take (i := 10) [true, true, true, true] hS (fun _ h => h.1) rfl rfl (by kernel_rfl) (by kernel_rfl) (by kernel_rfl) rfl rfl (fun W' hS => run_extract hS rfl rfl) fun a hS => ?_
  refine anyh_take (i := 11) [true, true, true, true] hS (fun _ h => h.1) rfl rfl (by kernel_rfl) (by kernel_rfl) (by kernel_rfl) rfl rfl (fun W' hS => run_extract hS rfl rfl) fun a hS => ?_
  refine anyh_take (i := 12) [true, true, true, true] hS (fun _ h => h.1) rfl rfl (by kernel_rfl) (by kernel_rfl) (by kernel_rfl) rfl rfl (fun W' hS => run_assign hS rfl) fun a hS => ?_
  refine anyh_take (i := 13) [true, true, true, true] hS (fun _ h => h.1) rfl rfl (by kernel_rfl) (by kernel_rfl) (by kernel_rfl) rfl rfl (fun W' hS => run_assign hS rfl) fun a hS => ?_
  refine anyh_done (by kernel_rfl) ?_ _
  refine wpIn_ret ?_
  repeat (first | refine q_ret ?_ | refine q_block_ret ?_)
  refine hS.done (res2 (fn := Tryz.f50) (r1 := .tmp 6) (r2 := .tmp 7) rfl (rv_tmp hS rfl) (rv_tmp hS rfl)) ?_
  have e0 : departW r c A f = (wayP (stepsL (siteOf r c A f) false) (awayP (siteOf r c A f)) (Cov (siteOf r c A f)) orig) := if_pos hE0
  have e1 : departL r c A f = (wayP (stepsL (siteOf r c A f) false) (awayP (siteOf r c A f)) (Cov (siteOf r c A f)) orig).getD [] := by unfold departL; rw [e0]
  have e2 : departE r c A f = if (wayP (stepsL (siteOf r c A f) false) (awayP (siteOf r c A f)) (Cov (siteOf r c A f)) orig).isSome = true then 0 else 3 := by unfold departE; rw [if_pos hE0, e0]
  rw [e1, e2]; exact ⟨_, rfl, (hS.now.2).wide (fun k hk _ => Nat.le_trans hwm hk) (fun _ _ => by decide)⟩
end Go.Proofs.YtdnodlgebpnfoaaGreat
