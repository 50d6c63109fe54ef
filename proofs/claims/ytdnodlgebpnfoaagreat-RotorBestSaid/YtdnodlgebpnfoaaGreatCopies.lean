/- The specification's copies of tables and rotors, walked. -/
import Derived.Test.YtdnodlgebpnfoaaGreatRotChk
import Derived.Test.YtdnodlgebpnfoaaGreatCopy
namespace Go.Proofs.YtdnodlgebpnfoaaGreat
open Go Go.RowKit Go.Shelf Sw
set_option linter.unusedVariables false
set_option linter.unusedSimpArgs false

structure SmallT (t : Tab) : Prop where
  x : t.X.length ≤ 15
  y : t.Y.length ≤ 15
  v : t.V.length ≤ 15
  rows : ∀ i, i < t.V.length → (rowOf t.V i).length ≤ 15


set_option maxHeartbeats 2000000 in
set_option maxRecDepth 100000 in
theorem ref01_Copy (Vt : TV) (t : Tab) {w : World} {Ft : Nat → Prop} (ht : TabR Ft w Vt t) (h15 : SmallT t) : Ret Tryz.prog 177 [.agg (tabC Vt t).toArray] w (fun v W' => ∃ V : TV, v = .agg (tabC V t).toArray ∧ TabR (fun k => w.heap.size ≤ k) W' V t) := by
 refine ret_start (n := 34) Tryz.func177 rfl rfl rfl (fun a hS => ?_)
 have Ht : ∀ W, Below w.heap.size w W → TabR Ft W Vt t := fun W hb => ht.move (keep_of hb)
 have hl1 := h15.x; have hl2 := h15.y; have hl3 := h15.v
 refine wpIn_seq ?_
 refine wpIn_region_lit ?_
 refine st_box_agg hS rfl rfl rfl fun W a b0 hS => st_alloc_agg Tryz.zeroValue25 hS rfl rfl fun W a b1 hS => wl_nil ?_
 refine wpIn_seq ?_
 have hlt0 := fun B hB => hS.lt (b := B) hB
 refine st_mix (k := 10) (by kernel_rfl) (by kernel_rfl) hS rfl rfl ?_
 have hw1 := hS.below.size
 refine mx_bs0 (fun W => bs22_0_ W) <| mx_v (fun a W hS hB => run_fieldAddr fa25_0 hS rfl) <| mx_v (fun a W hS hB => run_load_one (i := 1) Tryz.isAgg22 hS rfl rfl rfl) <| mx_app0 (E := 3) (e' := 3) (xs := t.X) rfl Tryz.underlying22 (AI.of ai3) Tryz.underlying22 (by repeat (first | exact List.Mem.head _ | apply List.Mem.tail)) rfl (fun W hL => (fun W hC => (Ht W hC).1) W (hS.below.trans (Below.mono hL hS.below.size))) (by have := h15.x; have := h15.y; have := h15.v; first | omega | (have := h15.rows i (by omega); omega)) <| mx_bs0 (fun W => bs22_0_ W) <| mx_v (fun a W hS hB => run_fieldAddr fa25_1 hS rfl) <| mx_v (fun a W hS hB => run_load_one (i := 1) Tryz.isAgg22 hS rfl rfl rfl) <| mx_app0 (E := 3) (e' := 3) (xs := t.Y) rfl Tryz.underlying22 (AI.of ai3) Tryz.underlying22 (by repeat (first | exact List.Mem.head _ | apply List.Mem.tail)) rfl (fun W hL => (fun W hC => (Ht W hC).2.1) W (hS.below.trans (Below.mono hL hS.below.size))) (by have := h15.x; have := h15.y; have := h15.v; first | omega | (have := h15.rows i (by omega); omega)) <| mx_ax (fun A1 A2 n1 c1 n2 c2 W => bd25_0_1 A1 n1 c1 A2 n2 c2 W) (by repeat (first | exact List.Mem.head _ | apply List.Mem.tail)) (by repeat (first | exact List.Mem.head _ | apply List.Mem.tail)) <| mx_alloc_agg Tryz.zeroValue25 <| ?_
 refine mx_end fun a W bs us hS hB hL => ?_
 dsimp only [kall, ball, List.cons_append, List.nil_append] at hS
 generalize bs 9 = b2 at hS
 generalize bs 5 = b3 at hS
 generalize bs 0 = b4 at hS
 have hS := hS.drop (List.Sublist.cons_cons _ (List.Sublist.cons _ (List.Sublist.cons _ (List.Sublist.refl _))))
 dsimp only [lall] at hL
 obtain ⟨hl1, hl2, hl6, _⟩ := hL
 obtain ⟨s1, s2, e1, h1, h2⟩ := hl1
 rw [e1] at hS
 have hS := (hS.more1 hlt0 h1 noInt3).more1 hlt0 h2 noInt3
 refine st_store (i := 0) Tryz.sizeOf25 hS rfl rfl rfl rfl rfl rfl rfl rfl rfl fun W a hS => wl_nil ?_
 refine wpIn_seq ?_
 refine wpIn_seq ?_
 refine wpIn_region_lit ?_
 refine st_v hS rfl rfl (run_assign hS rfl) fun a hS => wl_nil ?_
 refine wpIn_block ?_
 have hS := hS.more (Ψ := (fun (z : Nat × Value × List Value × List (SV × List Int)) (W : World) => ∀ y ∈ z.2.2.2, Sl kInt (fun k => w.heap.size ≤ k) W y.1 y.2) (⟨0, .slice none 0 0, [], []⟩)) (fun W' _ _ y hy => by cases hy)
 refine st_loop4 (α := Nat × Value × List Value × List (SV × List Int)) (fun z => [(4, .int .i64 ((z.1 : Nat) : Int))]) [(0, _), (1, _), (2, _), (3, _)] (fun l z => setB (l.take 3 ++ rowB z.2.1 z.2.2.1 22) 0 [.slice s1.a t.X.length s1.c, .slice s2.a t.Y.length s2.c, z.2.1]) (fun (z : Nat × Value × List Value × List (SV × List Int)) (W : World) => ∀ y ∈ z.2.2.2, Sl kInt (fun k => w.heap.size ≤ k) W y.1 y.2) (fun z => z.1 ≤ t.V.length ∧ z.2.2.2.map Prod.snd = t.V.take z.1 ∧ OwnL eRow 1 z.2.1 z.2.2.2 z.2.2.1) (fun z => t.V.length - z.1) (⟨0, .slice none 0 0, [], []⟩) hS (Sub.cons rfl (Sub.cons rfl (Sub.cons rfl (Sub.cons rfl (Sub.cons rfl Sub.nil))))) rfl (⟨Nat.zero_le _, rfl, OwnR.nil 1⟩) (fun z W a hφ hS => ?_)
 obtain ⟨i, v, cs, ys⟩ := z
 dsimp only [setB, List.cons_append, List.nil_append, List.take] at hS hφ
 obtain ⟨hi, hys, hO⟩ := hφ
 have hyl := congrArg List.length hys
 simp only [List.length_map, List.length_take] at hyl
 refine wpIn_seq ?_
 refine wpIn_seq ?_
 refine wpIn_region_lit ?_
 refine st_v hS rfl rfl (run_move hS rfl) fun a hS => st_v hS rfl rfl (run_fieldAddr fa25_2 hS rfl) fun a hS => st_v hS rfl rfl (run_load_one (i := 2) Tryz.isAgg23 hS rfl rfl rfl) fun a hS => st_v hS rfl rfl (run_len_slice Tryz.underlying23 hS rfl) fun a hS => st_v hS rfl rfl (run_bin hS rfl rfl rfl) fun a hS => wl_nil ?_
 refine st_cond hS rfl (fun hc1 => ?_) (fun hc1 => ?_)
 ·
  try simp only [ty] at hc1
  refine wpIn_skip ?_
  refine wpIn_seq ?_
  refine wpIn_block ?_
  have hlt0 := fun B hB => hS.lt (b := B) hB
  refine st_mix (k := 10) (by kernel_rfl) (by kernel_rfl) hS rfl rfl ?_
  have hw0 := hS.below.size
  refine mx_v (fun a W hS hB => run_fieldAddr fa25_2 hS rfl) <| mx_v (fun a W hS hB => run_load_one (i := 0) Tryz.isAgg23 hS rfl rfl rfl) <| mx_bs0 (fun W => bs22_0_ W) <| mx_v (fun a W hS hB => run_fieldAddr fa25_2 hS rfl) <| mx_v (fun a W hS hB => run_load_one (i := 2) Tryz.isAgg23 hS rfl rfl rfl) <| mx_v (fun a W hS hB => run_move hS rfl) <| ?_
  obtain ⟨ad0, s0, hA0, hL0, hR0⟩ := sl_rowB ((fun W hC => (Ht W hC).2.2) _ (Below.refl _ _)) (i := ((i : Nat) : Int)) (j := i) (by omega) (by omega)
  refine mx_v (fun a W hS hB => run_indexAddr Tryz.underlying23 Tryz.sizeOf22 hS rfl rfl hA0 (by omega) (by omega)) <| mx_v (fun a W hS hB => run_load_cell Tryz.isAgg22 hS rfl (hL0 _ hS.below)) <| mx_app0 (E := 3) (e' := 3) (xs := (rowOf t.V (i))) rfl Tryz.underlying22 (AI.of ai3) Tryz.underlying22 (by repeat (first | exact List.Mem.head _ | apply List.Mem.tail)) rfl (fun W hL => hR0 W (hS.below.trans (Below.mono hL hS.below.size))) (by have := h15.x; have := h15.y; have := h15.v; first | omega | (have := h15.rows i (by omega); omega)) <| mx_box1 (fun A n c W => bs23_1_0 A n c W) (by repeat (first | exact List.Mem.head _ | apply List.Mem.tail)) <| ?_
  refine mx_end fun a W bs us hS hB hL => ?_
  dsimp only [kall, ball, List.cons_append, List.nil_append] at hS
  generalize bs 7 = b5 at hS
  have hS := hS.drop (List.Sublist.cons _ (List.Sublist.refl _))
  dsimp only [lall] at hL
  obtain ⟨hl0, hl1, _⟩ := hL
  obtain ⟨bx, sx, e1, hcell, hsx⟩ := hl0
  rw [e1] at hS
  have hS := hS.moreSl hlt0 hsx
  refine st_append (l := [_, _, _]) (cs := cs) Tryz.underlying23 (AI.of ai22) (by decide) hS hO rfl rfl rfl rfl (src_box (e' := 22) Tryz.underlying23 hcell rfl) (by omega) fun W a v1 cs1 hO1 hS => ?_
  have hO1' : OwnL eRow 1 v1 (ys ++ [(sx, rowOf t.V i)]) cs1 := OwnL.app hO1 rfl rfl rfl rfl
  refine st_v hS rfl rfl (run_fieldAddr fa25_2 hS rfl) fun a hS => st_store (vs := [v1]) (i := 0) Tryz.sizeOf23 hS rfl rfl rfl rfl (OwnR.cells1 hO1') rfl rfl (allc (OwnR.one1 hO1') rfl) rfl fun W a hS => wl_nil ?_
  refine wpIn_region_lit ?_
  refine st_v hS rfl rfl (run_move hS rfl) fun a hS => st_v hS rfl rfl (run_add (t := ((i + 1 : Nat) : Int)) hS rfl rfl (by omega) (by omega) (by omega)) fun a hS => st_v hS rfl rfl (run_assign hS rfl) fun a hS => wl_nil ?_
  have hS := hS.less (Ψ := fun W => _ ∧ (fun (z : Nat × Value × List Value × List (SV × List Int)) (W : World) => ∀ y ∈ z.2.2.2, Sl kInt (fun k => w.heap.size ≤ k) W y.1 y.2) (⟨i + 1, v1, cs1, ys ++ [(sx, rowOf t.V i)]⟩) W) (fun W h => ⟨h.1.1, fun y hy => by
    rcases List.mem_append.1 hy with hy | hy
    · exact h.1.2 y hy
    · rw [List.mem_singleton.1 hy]; exact h.2.wide (fun k hk _ => Nat.le_trans hw0 hk) (fun _ _ => by decide)⟩)
  refine ⟨⟨i + 1, v1, cs1, ys ++ [(sx, rowOf t.V i)]⟩, ⟨⟨by omega, ?_, ?_⟩, by omega⟩, (hS.sub (Sub.cons rfl (Sub.cons rfl (Sub.cons rfl (Sub.cons rfl (Sub.cons rfl Sub.nil))))))⟩
  · simp only [List.map_append, hys, List.map_cons, List.map_nil]; rw [List.take_succ_eq_append_getElem (by omega)]; simp [rowOf, List.getD_eq_getElem?_getD, show i < t.V.length by omega]
  · assumption
 ·
  try simp only [ty] at hc1
  refine wpIn_exit ?_
  refine wpIn_seq ?_
  refine wpIn_region_lit ?_
  refine st_v hS rfl rfl (run_load_all (i := 0) Tryz.isAgg25 Tryz.sizeOf25 hS rfl rfl rfl) fun a hS => st_store (i := 1) Tryz.sizeOf25 hS rfl rfl rfl rfl rfl rfl rfl (allc rfl (allc rfl (allc (OwnR.one1 hO) rfl))) rfl fun W a hS => wl_nil ?_
  refine wpIn_ret ?_
  repeat (first | refine q_ret ?_ | refine q_block_ret ?_)
  refine hS.done (res1 (fn := Tryz.f177) (r1 := .cell 2 25) rfl (rv_agg (i := 1) Tryz.isAgg25 Tryz.sizeOf25 hS rfl rfl rfl)) ?_
  obtain ⟨s3, rfl, hs3, _⟩ := OwnR.frozen (dk := kOf eRow 1 24 (by decide) (fun _ => rfl)) (l := [_, _, _]) hS hO (fun _ _ _ => rfl) rfl (by show ys.length * 24 ≤ _; omega)
  have hF := hS.now
  have hV := sl_rows hs3 (fun y hy => hF.2 y hy)
  rw [hys, List.take_of_length_le (by omega)] at hV
  have he : ys.length = t.V.length := by omega
  rw [he]
  exact ⟨⟨s1, s2, s3⟩, rfl, hF.1.1.2.wide (fun k hk _ => Nat.le_trans hw1 hk.1) (fun _ _ => by decide), hF.1.2.wide (fun k hk _ => Nat.le_trans hw1 hk.1) (fun _ _ => by decide), hV⟩


structure SmallR (r : Rot) : Prop where
  hover : SmallT r.hover
  ground : SmallT r.ground
  level : SmallT r.level
  power : SmallT r.power
  never : SmallT r.never
  low : SmallT r.low
  high : SmallT r.high
  glide : SmallT r.glide
def farT (t : Tab) : Bool := decide (15 < t.X.length) || decide (15 < t.Y.length) || decide (15 < t.V.length) || t.V.any fun row => decide (15 < row.length)
def farR (r : Rot) : Bool := farT r.hover || farT r.ground || farT r.level || farT r.power || farT r.never || farT r.low || farT r.high || farT r.glide
theorem farT_not {t : Tab} (h : farT t = false) : SmallT t := by
  simp only [farT, Bool.or_eq_false_iff, decide_eq_false_iff_not, List.any_eq_false] at h
  obtain ⟨⟨⟨h1, h2⟩, h3⟩, h4⟩ := h
  exact ⟨by omega, by omega, by omega, fun i hi => by have := h4 _ (getD_mem (d := []) hi); simp only [decide_eq_true_eq] at this; unfold rowOf; omega⟩
theorem farR_not {r : Rot} (h : farR r = false) : SmallR r := by
  simp only [farR, Bool.or_eq_false_iff] at h
  obtain ⟨⟨⟨⟨⟨⟨⟨h1, h2⟩, h3⟩, h4⟩, h5⟩, h6⟩, h7⟩, h8⟩ := h
  exact ⟨farT_not h1, farT_not h2, farT_not h3, farT_not h4, farT_not h5, farT_not h6, farT_not h7, farT_not h8⟩


set_option maxHeartbeats 2000000 in
set_option maxRecDepth 100000 in
theorem ref02_Copy (Vr : RV) (r : Rot) {w : World} {Fr : Nat → Prop} (hr : RotR Fr w Vr r) (h15 : SmallR r) : Ret Tryz.prog 103 [.agg (rotC Vr r).toArray] w (fun v W' => ∃ V : RV, v = .agg (rotC V r).toArray ∧ RotR (fun k => w.heap.size ≤ k) W' V r) := by
 refine ret_start (n := 38) Tryz.func103 rfl rfl rfl (fun a hS => ?_)
 have Hr : ∀ W, Below w.heap.size w W → RotR Fr W Vr r := fun W hb => hr.move (keep_of hb)
 refine wpIn_seq ?_
 refine wpIn_region_lit ?_
 refine st_box_agg hS rfl rfl rfl fun W a b0 hS => st_alloc_agg Tryz.zeroValue27 hS rfl rfl fun W a b1 hS => wl_nil ?_
 refine wpIn_seq ?_
 refine wpIn_region_lit ?_
 refine st_v hS rfl rfl (run_load_all (i := 1) Tryz.isAgg27 Tryz.sizeOf27 hS rfl rfl rfl) fun a hS => st_alloc_agg Tryz.zeroValue27 hS rfl rfl fun W a b2 hS => st_store (cs' := [.slice Vr.hover.x.a r.hover.X.length Vr.hover.x.c, .slice Vr.hover.y.a r.hover.Y.length Vr.hover.y.c, .slice Vr.hover.v.a r.hover.V.length Vr.hover.v.c, .slice Vr.ground.x.a r.ground.X.length Vr.ground.x.c, .slice Vr.ground.y.a r.ground.Y.length Vr.ground.y.c, .slice Vr.ground.v.a r.ground.V.length Vr.ground.v.c, .slice Vr.level.x.a r.level.X.length Vr.level.x.c, .slice Vr.level.y.a r.level.Y.length Vr.level.y.c, .slice Vr.level.v.a r.level.V.length Vr.level.v.c, .slice Vr.power.x.a r.power.X.length Vr.power.x.c, .slice Vr.power.y.a r.power.Y.length Vr.power.y.c, .slice Vr.power.v.a r.power.V.length Vr.power.v.c, .slice Vr.never.x.a r.never.X.length Vr.never.x.c, .slice Vr.never.y.a r.never.Y.length Vr.never.y.c, .slice Vr.never.v.a r.never.V.length Vr.never.v.c, .slice Vr.low.x.a r.low.X.length Vr.low.x.c, .slice Vr.low.y.a r.low.Y.length Vr.low.y.c, .slice Vr.low.v.a r.low.V.length Vr.low.v.c, .slice Vr.high.x.a r.high.X.length Vr.high.x.c, .slice Vr.high.y.a r.high.Y.length Vr.high.y.c, .slice Vr.high.v.a r.high.V.length Vr.high.v.c, .slice Vr.glide.x.a r.glide.X.length Vr.glide.x.c, .slice Vr.glide.y.a r.glide.Y.length Vr.glide.y.c, .slice Vr.glide.v.a r.glide.V.length Vr.glide.v.c, .int .i64 r.climb, .int .i64 r.burn]) (i := 0) Tryz.sizeOf27 hS rfl rfl rfl rfl rfl rfl rfl rfl rfl fun W a hS => wl_nil ?_
 refine wpIn_seq ?_
 refine wpIn_region_lit ?_
 refine st_v hS rfl rfl (run_fieldAddr fa27_0 hS rfl) fun a hS => st_v hS rfl rfl (run_load_agg (i := 2) (vs := [_, _, _]) Tryz.isAgg25 Tryz.sizeOf25 hS rfl rfl rfl ⟨rfl, rfl, rfl, trivial⟩) fun a hS => ?_
 have hw0 := hS.below.size
 refine st_call (ref01_Copy Vr.hover r.hover ((fun W hC => (Hr W hC).hover) _ hS.below) (by exact h15.hover)) Tryz.call177 hS rfl rfl rfl fun v W a hR hB hlt hS => ?_
 
 obtain ⟨V0, rfl, hV0⟩ := hR
 have hS := hS.moreTab hw0 hlt hV0
 refine st_v hS rfl rfl (run_fieldAddr fa27_0 hS rfl) fun a hS => st_store (cs' := [.slice V0.x.a r.hover.X.length V0.x.c, .slice V0.y.a r.hover.Y.length V0.y.c, .slice V0.v.a r.hover.V.length V0.v.c, .slice Vr.ground.x.a r.ground.X.length Vr.ground.x.c, .slice Vr.ground.y.a r.ground.Y.length Vr.ground.y.c, .slice Vr.ground.v.a r.ground.V.length Vr.ground.v.c, .slice Vr.level.x.a r.level.X.length Vr.level.x.c, .slice Vr.level.y.a r.level.Y.length Vr.level.y.c, .slice Vr.level.v.a r.level.V.length Vr.level.v.c, .slice Vr.power.x.a r.power.X.length Vr.power.x.c, .slice Vr.power.y.a r.power.Y.length Vr.power.y.c, .slice Vr.power.v.a r.power.V.length Vr.power.v.c, .slice Vr.never.x.a r.never.X.length Vr.never.x.c, .slice Vr.never.y.a r.never.Y.length Vr.never.y.c, .slice Vr.never.v.a r.never.V.length Vr.never.v.c, .slice Vr.low.x.a r.low.X.length Vr.low.x.c, .slice Vr.low.y.a r.low.Y.length Vr.low.y.c, .slice Vr.low.v.a r.low.V.length Vr.low.v.c, .slice Vr.high.x.a r.high.X.length Vr.high.x.c, .slice Vr.high.y.a r.high.Y.length Vr.high.y.c, .slice Vr.high.v.a r.high.V.length Vr.high.v.c, .slice Vr.glide.x.a r.glide.X.length Vr.glide.x.c, .slice Vr.glide.y.a r.glide.Y.length Vr.glide.y.c, .slice Vr.glide.v.a r.glide.V.length Vr.glide.v.c, .int .i64 r.climb, .int .i64 r.burn]) (i := 0) Tryz.sizeOf25 hS rfl rfl rfl rfl rfl rfl rfl rfl rfl fun W a hS => wl_nil ?_
 refine wpIn_seq ?_
 refine wpIn_region_lit ?_
 refine st_v hS rfl rfl (run_fieldAddr fa27_1 hS rfl) fun a hS => st_v hS rfl rfl (run_load_agg (i := 2) (vs := [_, _, _]) Tryz.isAgg25 Tryz.sizeOf25 hS rfl rfl rfl ⟨rfl, rfl, rfl, trivial⟩) fun a hS => ?_
 have hw1 := hS.below.size
 refine st_call (ref01_Copy Vr.ground r.ground ((fun W hC => (Hr W hC).ground) _ hS.below) (by exact h15.ground)) Tryz.call177 hS rfl rfl rfl fun v W a hR hB hlt hS => ?_
 
 obtain ⟨V1, rfl, hV1⟩ := hR
 have hS := hS.moreTab hw1 hlt hV1
 refine st_v hS rfl rfl (run_fieldAddr fa27_1 hS rfl) fun a hS => st_store (cs' := [.slice V0.x.a r.hover.X.length V0.x.c, .slice V0.y.a r.hover.Y.length V0.y.c, .slice V0.v.a r.hover.V.length V0.v.c, .slice V1.x.a r.ground.X.length V1.x.c, .slice V1.y.a r.ground.Y.length V1.y.c, .slice V1.v.a r.ground.V.length V1.v.c, .slice Vr.level.x.a r.level.X.length Vr.level.x.c, .slice Vr.level.y.a r.level.Y.length Vr.level.y.c, .slice Vr.level.v.a r.level.V.length Vr.level.v.c, .slice Vr.power.x.a r.power.X.length Vr.power.x.c, .slice Vr.power.y.a r.power.Y.length Vr.power.y.c, .slice Vr.power.v.a r.power.V.length Vr.power.v.c, .slice Vr.never.x.a r.never.X.length Vr.never.x.c, .slice Vr.never.y.a r.never.Y.length Vr.never.y.c, .slice Vr.never.v.a r.never.V.length Vr.never.v.c, .slice Vr.low.x.a r.low.X.length Vr.low.x.c, .slice Vr.low.y.a r.low.Y.length Vr.low.y.c, .slice Vr.low.v.a r.low.V.length Vr.low.v.c, .slice Vr.high.x.a r.high.X.length Vr.high.x.c, .slice Vr.high.y.a r.high.Y.length Vr.high.y.c, .slice Vr.high.v.a r.high.V.length Vr.high.v.c, .slice Vr.glide.x.a r.glide.X.length Vr.glide.x.c, .slice Vr.glide.y.a r.glide.Y.length Vr.glide.y.c, .slice Vr.glide.v.a r.glide.V.length Vr.glide.v.c, .int .i64 r.climb, .int .i64 r.burn]) (i := 0) Tryz.sizeOf25 hS rfl rfl rfl rfl rfl rfl rfl rfl rfl fun W a hS => wl_nil ?_
 refine wpIn_seq ?_
 refine wpIn_region_lit ?_
 refine st_v hS rfl rfl (run_fieldAddr fa27_2 hS rfl) fun a hS => st_v hS rfl rfl (run_load_agg (i := 2) (vs := [_, _, _]) Tryz.isAgg25 Tryz.sizeOf25 hS rfl rfl rfl ⟨rfl, rfl, rfl, trivial⟩) fun a hS => ?_
 have hw2 := hS.below.size
 refine st_call (ref01_Copy Vr.level r.level ((fun W hC => (Hr W hC).level) _ hS.below) (by exact h15.level)) Tryz.call177 hS rfl rfl rfl fun v W a hR hB hlt hS => ?_
 
 obtain ⟨V2, rfl, hV2⟩ := hR
 have hS := hS.moreTab hw2 hlt hV2
 refine st_v hS rfl rfl (run_fieldAddr fa27_2 hS rfl) fun a hS => st_store (cs' := [.slice V0.x.a r.hover.X.length V0.x.c, .slice V0.y.a r.hover.Y.length V0.y.c, .slice V0.v.a r.hover.V.length V0.v.c, .slice V1.x.a r.ground.X.length V1.x.c, .slice V1.y.a r.ground.Y.length V1.y.c, .slice V1.v.a r.ground.V.length V1.v.c, .slice V2.x.a r.level.X.length V2.x.c, .slice V2.y.a r.level.Y.length V2.y.c, .slice V2.v.a r.level.V.length V2.v.c, .slice Vr.power.x.a r.power.X.length Vr.power.x.c, .slice Vr.power.y.a r.power.Y.length Vr.power.y.c, .slice Vr.power.v.a r.power.V.length Vr.power.v.c, .slice Vr.never.x.a r.never.X.length Vr.never.x.c, .slice Vr.never.y.a r.never.Y.length Vr.never.y.c, .slice Vr.never.v.a r.never.V.length Vr.never.v.c, .slice Vr.low.x.a r.low.X.length Vr.low.x.c, .slice Vr.low.y.a r.low.Y.length Vr.low.y.c, .slice Vr.low.v.a r.low.V.length Vr.low.v.c, .slice Vr.high.x.a r.high.X.length Vr.high.x.c, .slice Vr.high.y.a r.high.Y.length Vr.high.y.c, .slice Vr.high.v.a r.high.V.length Vr.high.v.c, .slice Vr.glide.x.a r.glide.X.length Vr.glide.x.c, .slice Vr.glide.y.a r.glide.Y.length Vr.glide.y.c, .slice Vr.glide.v.a r.glide.V.length Vr.glide.v.c, .int .i64 r.climb, .int .i64 r.burn]) (i := 0) Tryz.sizeOf25 hS rfl rfl rfl rfl rfl rfl rfl rfl rfl fun W a hS => wl_nil ?_
 refine wpIn_seq ?_
 refine wpIn_region_lit ?_
 refine st_v hS rfl rfl (run_fieldAddr fa27_3 hS rfl) fun a hS => st_v hS rfl rfl (run_load_agg (i := 2) (vs := [_, _, _]) Tryz.isAgg25 Tryz.sizeOf25 hS rfl rfl rfl ⟨rfl, rfl, rfl, trivial⟩) fun a hS => ?_
 have hw3 := hS.below.size
 refine st_call (ref01_Copy Vr.power r.power ((fun W hC => (Hr W hC).power) _ hS.below) (by exact h15.power)) Tryz.call177 hS rfl rfl rfl fun v W a hR hB hlt hS => ?_
 
 obtain ⟨V3, rfl, hV3⟩ := hR
 have hS := hS.moreTab hw3 hlt hV3
 refine st_v hS rfl rfl (run_fieldAddr fa27_3 hS rfl) fun a hS => st_store (cs' := [.slice V0.x.a r.hover.X.length V0.x.c, .slice V0.y.a r.hover.Y.length V0.y.c, .slice V0.v.a r.hover.V.length V0.v.c, .slice V1.x.a r.ground.X.length V1.x.c, .slice V1.y.a r.ground.Y.length V1.y.c, .slice V1.v.a r.ground.V.length V1.v.c, .slice V2.x.a r.level.X.length V2.x.c, .slice V2.y.a r.level.Y.length V2.y.c, .slice V2.v.a r.level.V.length V2.v.c, .slice V3.x.a r.power.X.length V3.x.c, .slice V3.y.a r.power.Y.length V3.y.c, .slice V3.v.a r.power.V.length V3.v.c, .slice Vr.never.x.a r.never.X.length Vr.never.x.c, .slice Vr.never.y.a r.never.Y.length Vr.never.y.c, .slice Vr.never.v.a r.never.V.length Vr.never.v.c, .slice Vr.low.x.a r.low.X.length Vr.low.x.c, .slice Vr.low.y.a r.low.Y.length Vr.low.y.c, .slice Vr.low.v.a r.low.V.length Vr.low.v.c, .slice Vr.high.x.a r.high.X.length Vr.high.x.c, .slice Vr.high.y.a r.high.Y.length Vr.high.y.c, .slice Vr.high.v.a r.high.V.length Vr.high.v.c, .slice Vr.glide.x.a r.glide.X.length Vr.glide.x.c, .slice Vr.glide.y.a r.glide.Y.length Vr.glide.y.c, .slice Vr.glide.v.a r.glide.V.length Vr.glide.v.c, .int .i64 r.climb, .int .i64 r.burn]) (i := 0) Tryz.sizeOf25 hS rfl rfl rfl rfl rfl rfl rfl rfl rfl fun W a hS => wl_nil ?_
 refine wpIn_seq ?_
 refine wpIn_region_lit ?_
 refine st_v hS rfl rfl (run_fieldAddr fa27_4 hS rfl) fun a hS => st_v hS rfl rfl (run_load_agg (i := 2) (vs := [_, _, _]) Tryz.isAgg25 Tryz.sizeOf25 hS rfl rfl rfl ⟨rfl, rfl, rfl, trivial⟩) fun a hS => ?_
 have hw4 := hS.below.size
 refine st_call (ref01_Copy Vr.never r.never ((fun W hC => (Hr W hC).never) _ hS.below) (by exact h15.never)) Tryz.call177 hS rfl rfl rfl fun v W a hR hB hlt hS => ?_
 
 obtain ⟨V4, rfl, hV4⟩ := hR
 have hS := hS.moreTab hw4 hlt hV4
 refine st_v hS rfl rfl (run_fieldAddr fa27_4 hS rfl) fun a hS => st_store (cs' := [.slice V0.x.a r.hover.X.length V0.x.c, .slice V0.y.a r.hover.Y.length V0.y.c, .slice V0.v.a r.hover.V.length V0.v.c, .slice V1.x.a r.ground.X.length V1.x.c, .slice V1.y.a r.ground.Y.length V1.y.c, .slice V1.v.a r.ground.V.length V1.v.c, .slice V2.x.a r.level.X.length V2.x.c, .slice V2.y.a r.level.Y.length V2.y.c, .slice V2.v.a r.level.V.length V2.v.c, .slice V3.x.a r.power.X.length V3.x.c, .slice V3.y.a r.power.Y.length V3.y.c, .slice V3.v.a r.power.V.length V3.v.c, .slice V4.x.a r.never.X.length V4.x.c, .slice V4.y.a r.never.Y.length V4.y.c, .slice V4.v.a r.never.V.length V4.v.c, .slice Vr.low.x.a r.low.X.length Vr.low.x.c, .slice Vr.low.y.a r.low.Y.length Vr.low.y.c, .slice Vr.low.v.a r.low.V.length Vr.low.v.c, .slice Vr.high.x.a r.high.X.length Vr.high.x.c, .slice Vr.high.y.a r.high.Y.length Vr.high.y.c, .slice Vr.high.v.a r.high.V.length Vr.high.v.c, .slice Vr.glide.x.a r.glide.X.length Vr.glide.x.c, .slice Vr.glide.y.a r.glide.Y.length Vr.glide.y.c, .slice Vr.glide.v.a r.glide.V.length Vr.glide.v.c, .int .i64 r.climb, .int .i64 r.burn]) (i := 0) Tryz.sizeOf25 hS rfl rfl rfl rfl rfl rfl rfl rfl rfl fun W a hS => wl_nil ?_
 refine wpIn_seq ?_
 refine wpIn_region_lit ?_
 refine st_v hS rfl rfl (run_fieldAddr fa27_5 hS rfl) fun a hS => st_v hS rfl rfl (run_load_agg (i := 2) (vs := [_, _, _]) Tryz.isAgg25 Tryz.sizeOf25 hS rfl rfl rfl ⟨rfl, rfl, rfl, trivial⟩) fun a hS => ?_
 have hw5 := hS.below.size
 refine st_call (ref01_Copy Vr.low r.low ((fun W hC => (Hr W hC).low) _ hS.below) (by exact h15.low)) Tryz.call177 hS rfl rfl rfl fun v W a hR hB hlt hS => ?_
 
 obtain ⟨V5, rfl, hV5⟩ := hR
 have hS := hS.moreTab hw5 hlt hV5
 refine st_v hS rfl rfl (run_fieldAddr fa27_5 hS rfl) fun a hS => st_store (cs' := [.slice V0.x.a r.hover.X.length V0.x.c, .slice V0.y.a r.hover.Y.length V0.y.c, .slice V0.v.a r.hover.V.length V0.v.c, .slice V1.x.a r.ground.X.length V1.x.c, .slice V1.y.a r.ground.Y.length V1.y.c, .slice V1.v.a r.ground.V.length V1.v.c, .slice V2.x.a r.level.X.length V2.x.c, .slice V2.y.a r.level.Y.length V2.y.c, .slice V2.v.a r.level.V.length V2.v.c, .slice V3.x.a r.power.X.length V3.x.c, .slice V3.y.a r.power.Y.length V3.y.c, .slice V3.v.a r.power.V.length V3.v.c, .slice V4.x.a r.never.X.length V4.x.c, .slice V4.y.a r.never.Y.length V4.y.c, .slice V4.v.a r.never.V.length V4.v.c, .slice V5.x.a r.low.X.length V5.x.c, .slice V5.y.a r.low.Y.length V5.y.c, .slice V5.v.a r.low.V.length V5.v.c, .slice Vr.high.x.a r.high.X.length Vr.high.x.c, .slice Vr.high.y.a r.high.Y.length Vr.high.y.c, .slice Vr.high.v.a r.high.V.length Vr.high.v.c, .slice Vr.glide.x.a r.glide.X.length Vr.glide.x.c, .slice Vr.glide.y.a r.glide.Y.length Vr.glide.y.c, .slice Vr.glide.v.a r.glide.V.length Vr.glide.v.c, .int .i64 r.climb, .int .i64 r.burn]) (i := 0) Tryz.sizeOf25 hS rfl rfl rfl rfl rfl rfl rfl rfl rfl fun W a hS => wl_nil ?_
 have hS := hS.sub (κ' := [(0, _), (1, _), (2, _), (3, _), (28, _)]) (Sub.cons rfl (Sub.cons rfl (Sub.cons rfl (Sub.cons rfl (Sub.cons rfl Sub.nil)))))
 refine wpIn_seq ?_
 refine wpIn_region_lit ?_
 refine st_v hS rfl rfl (run_fieldAddr fa27_6 hS rfl) fun a hS => st_v hS rfl rfl (run_load_agg (i := 2) (vs := [_, _, _]) Tryz.isAgg25 Tryz.sizeOf25 hS rfl rfl rfl ⟨rfl, rfl, rfl, trivial⟩) fun a hS => ?_
 have hw6 := hS.below.size
 refine st_call (ref01_Copy Vr.high r.high ((fun W hC => (Hr W hC).high) _ hS.below) (by exact h15.high)) Tryz.call177 hS rfl rfl rfl fun v W a hR hB hlt hS => ?_
 
 obtain ⟨V6, rfl, hV6⟩ := hR
 have hS := hS.moreTab hw6 hlt hV6
 refine st_v hS rfl rfl (run_fieldAddr fa27_6 hS rfl) fun a hS => st_store (cs' := [.slice V0.x.a r.hover.X.length V0.x.c, .slice V0.y.a r.hover.Y.length V0.y.c, .slice V0.v.a r.hover.V.length V0.v.c, .slice V1.x.a r.ground.X.length V1.x.c, .slice V1.y.a r.ground.Y.length V1.y.c, .slice V1.v.a r.ground.V.length V1.v.c, .slice V2.x.a r.level.X.length V2.x.c, .slice V2.y.a r.level.Y.length V2.y.c, .slice V2.v.a r.level.V.length V2.v.c, .slice V3.x.a r.power.X.length V3.x.c, .slice V3.y.a r.power.Y.length V3.y.c, .slice V3.v.a r.power.V.length V3.v.c, .slice V4.x.a r.never.X.length V4.x.c, .slice V4.y.a r.never.Y.length V4.y.c, .slice V4.v.a r.never.V.length V4.v.c, .slice V5.x.a r.low.X.length V5.x.c, .slice V5.y.a r.low.Y.length V5.y.c, .slice V5.v.a r.low.V.length V5.v.c, .slice V6.x.a r.high.X.length V6.x.c, .slice V6.y.a r.high.Y.length V6.y.c, .slice V6.v.a r.high.V.length V6.v.c, .slice Vr.glide.x.a r.glide.X.length Vr.glide.x.c, .slice Vr.glide.y.a r.glide.Y.length Vr.glide.y.c, .slice Vr.glide.v.a r.glide.V.length Vr.glide.v.c, .int .i64 r.climb, .int .i64 r.burn]) (i := 0) Tryz.sizeOf25 hS rfl rfl rfl rfl rfl rfl rfl rfl rfl fun W a hS => wl_nil ?_
 refine wpIn_seq ?_
 refine wpIn_region_lit ?_
 refine st_v hS rfl rfl (run_fieldAddr fa27_7 hS rfl) fun a hS => st_v hS rfl rfl (run_load_agg (i := 2) (vs := [_, _, _]) Tryz.isAgg25 Tryz.sizeOf25 hS rfl rfl rfl ⟨rfl, rfl, rfl, trivial⟩) fun a hS => ?_
 have hw7 := hS.below.size
 refine st_call (ref01_Copy Vr.glide r.glide ((fun W hC => (Hr W hC).glide) _ hS.below) (by exact h15.glide)) Tryz.call177 hS rfl rfl rfl fun v W a hR hB hlt hS => ?_
 
 obtain ⟨V7, rfl, hV7⟩ := hR
 have hS := hS.moreTab hw7 hlt hV7
 refine st_v hS rfl rfl (run_fieldAddr fa27_7 hS rfl) fun a hS => st_store (cs' := [.slice V0.x.a r.hover.X.length V0.x.c, .slice V0.y.a r.hover.Y.length V0.y.c, .slice V0.v.a r.hover.V.length V0.v.c, .slice V1.x.a r.ground.X.length V1.x.c, .slice V1.y.a r.ground.Y.length V1.y.c, .slice V1.v.a r.ground.V.length V1.v.c, .slice V2.x.a r.level.X.length V2.x.c, .slice V2.y.a r.level.Y.length V2.y.c, .slice V2.v.a r.level.V.length V2.v.c, .slice V3.x.a r.power.X.length V3.x.c, .slice V3.y.a r.power.Y.length V3.y.c, .slice V3.v.a r.power.V.length V3.v.c, .slice V4.x.a r.never.X.length V4.x.c, .slice V4.y.a r.never.Y.length V4.y.c, .slice V4.v.a r.never.V.length V4.v.c, .slice V5.x.a r.low.X.length V5.x.c, .slice V5.y.a r.low.Y.length V5.y.c, .slice V5.v.a r.low.V.length V5.v.c, .slice V6.x.a r.high.X.length V6.x.c, .slice V6.y.a r.high.Y.length V6.y.c, .slice V6.v.a r.high.V.length V6.v.c, .slice V7.x.a r.glide.X.length V7.x.c, .slice V7.y.a r.glide.Y.length V7.y.c, .slice V7.v.a r.glide.V.length V7.v.c, .int .i64 r.climb, .int .i64 r.burn]) (i := 0) Tryz.sizeOf25 hS rfl rfl rfl rfl rfl rfl rfl rfl rfl fun W a hS => wl_nil ?_
 refine wpIn_seq ?_
 refine wpIn_region_lit ?_
 refine st_v hS rfl rfl (run_load_all (i := 0) Tryz.isAgg27 Tryz.sizeOf27 hS rfl rfl rfl) fun a hS => st_store (cs' := [.slice V0.x.a r.hover.X.length V0.x.c, .slice V0.y.a r.hover.Y.length V0.y.c, .slice V0.v.a r.hover.V.length V0.v.c, .slice V1.x.a r.ground.X.length V1.x.c, .slice V1.y.a r.ground.Y.length V1.y.c, .slice V1.v.a r.ground.V.length V1.v.c, .slice V2.x.a r.level.X.length V2.x.c, .slice V2.y.a r.level.Y.length V2.y.c, .slice V2.v.a r.level.V.length V2.v.c, .slice V3.x.a r.power.X.length V3.x.c, .slice V3.y.a r.power.Y.length V3.y.c, .slice V3.v.a r.power.V.length V3.v.c, .slice V4.x.a r.never.X.length V4.x.c, .slice V4.y.a r.never.Y.length V4.y.c, .slice V4.v.a r.never.V.length V4.v.c, .slice V5.x.a r.low.X.length V5.x.c, .slice V5.y.a r.low.Y.length V5.y.c, .slice V5.v.a r.low.V.length V5.v.c, .slice V6.x.a r.high.X.length V6.x.c, .slice V6.y.a r.high.Y.length V6.y.c, .slice V6.v.a r.high.V.length V6.v.c, .slice V7.x.a r.glide.X.length V7.x.c, .slice V7.y.a r.glide.Y.length V7.y.c, .slice V7.v.a r.glide.V.length V7.v.c, .int .i64 r.climb, .int .i64 r.burn]) (i := 1) Tryz.sizeOf27 hS rfl rfl rfl rfl rfl rfl rfl rfl rfl fun W a hS => wl_nil ?_
 refine wpIn_ret ?_
 repeat (first | refine q_ret ?_ | refine q_block_ret ?_)
 refine hS.done (res1 (fn := Tryz.f103) (r1 := .cell 2 27) rfl (rv_agg (i := 1) Tryz.isAgg27 Tryz.sizeOf27 hS rfl rfl rfl)) ?_
 have hF := hS.now
 exact ⟨⟨V0, V1, V2, V3, V4, V5, V6, V7⟩, rfl, ⟨hF.1.1.1.1.1.1.1.2, hF.1.1.1.1.1.1.2, hF.1.1.1.1.1.2, hF.1.1.1.1.2, hF.1.1.1.2, hF.1.1.2, hF.1.2, hF.2⟩⟩


set_option maxHeartbeats 2000000 in
set_option maxRecDepth 100000 in
theorem law02_own (Vr : RV) (r : Rot) {w : World} {Fr : Nat → Prop} (hr : RotR Fr w Vr r) (h15 : SmallR r) : Ret Tryz.prog 35 [.agg (rotC Vr r).toArray] w (fun v W' => ∃ V : RV, v = .agg (rotC V r).toArray ∧ RotR (fun k => w.heap.size ≤ k) W' V r) := by
 refine ret_start (n := 5) Tryz.func35 rfl rfl rfl (fun a hS => ?_)
 have Hr : ∀ W, Below w.heap.size w W → RotR Fr W Vr r := fun W hb => hr.move (keep_of hb)
 refine wpIn_seq ?_
 refine wpIn_region_lit ?_
 refine st_box_agg hS rfl rfl rfl fun W a b0 hS => st_alloc_agg Tryz.zeroValue27 hS rfl rfl fun W a b1 hS => wl_nil ?_
 refine wpIn_seq ?_
 refine wpIn_region_lit ?_
 refine st_v hS rfl rfl (run_load_all (i := 1) Tryz.isAgg27 Tryz.sizeOf27 hS rfl rfl rfl) fun a hS => ?_
 have hw0 := hS.below.size
 refine st_call (ref02_Copy Vr r (Hr _ hS.below) (by assumption)) Tryz.call103 hS rfl rfl rfl fun v W a hR hB hlt hS => ?_
 
 obtain ⟨V0, rfl, hV0⟩ := hR
 have hS := hS.moreRot hw0 hlt hV0
 refine st_store (cs' := [.slice V0.hover.x.a r.hover.X.length V0.hover.x.c, .slice V0.hover.y.a r.hover.Y.length V0.hover.y.c, .slice V0.hover.v.a r.hover.V.length V0.hover.v.c, .slice V0.ground.x.a r.ground.X.length V0.ground.x.c, .slice V0.ground.y.a r.ground.Y.length V0.ground.y.c, .slice V0.ground.v.a r.ground.V.length V0.ground.v.c, .slice V0.level.x.a r.level.X.length V0.level.x.c, .slice V0.level.y.a r.level.Y.length V0.level.y.c, .slice V0.level.v.a r.level.V.length V0.level.v.c, .slice V0.power.x.a r.power.X.length V0.power.x.c, .slice V0.power.y.a r.power.Y.length V0.power.y.c, .slice V0.power.v.a r.power.V.length V0.power.v.c, .slice V0.never.x.a r.never.X.length V0.never.x.c, .slice V0.never.y.a r.never.Y.length V0.never.y.c, .slice V0.never.v.a r.never.V.length V0.never.v.c, .slice V0.low.x.a r.low.X.length V0.low.x.c, .slice V0.low.y.a r.low.Y.length V0.low.y.c, .slice V0.low.v.a r.low.V.length V0.low.v.c, .slice V0.high.x.a r.high.X.length V0.high.x.c, .slice V0.high.y.a r.high.Y.length V0.high.y.c, .slice V0.high.v.a r.high.V.length V0.high.v.c, .slice V0.glide.x.a r.glide.X.length V0.glide.x.c, .slice V0.glide.y.a r.glide.Y.length V0.glide.y.c, .slice V0.glide.v.a r.glide.V.length V0.glide.v.c, .int .i64 r.climb, .int .i64 r.burn]) (i := 0) Tryz.sizeOf27 hS rfl rfl rfl rfl rfl rfl rfl rfl rfl fun W a hS => wl_nil ?_
 refine wpIn_ret ?_
 repeat (first | refine q_ret ?_ | refine q_block_ret ?_)
 refine hS.done (res1 (fn := Tryz.f35) (r1 := .cell 2 27) rfl (rv_agg (i := 0) Tryz.isAgg27 Tryz.sizeOf27 hS rfl rfl rfl)) ?_
 have hF := hS.now
 exact ⟨V0, rfl, hF.2⟩


set_option maxHeartbeats 2000000 in
set_option maxRecDepth 100000 in
theorem law01_Far  (Vt : TV) (t : Tab) {w : World} {Ft : Nat → Prop} (ht : TabR Ft w Vt t)  : Ret Tryz.prog 98 [.agg (tabC Vt t).toArray] w (fun v _ => v = .bool (farT t)) := by
 refine ret_start (n := 34) Tryz.func98 rfl rfl rfl (fun a hS => ?_)
 have Ht : ∀ W, Below w.heap.size w W → TabR Ft W Vt t := fun W hb => ht.move (keep_of hb)
 have hmtx := ht.1.len
 have hmty := ht.2.1.len
 have hmtv := ht.2.2.len
 refine wpIn_seq ?_
 refine wpIn_region_lit ?_
 refine st_box_agg hS rfl rfl rfl fun W a b0 hS => st_v hS rfl rfl (run_assign hS rfl) fun a hS => wl_nil ?_
 refine wpIn_seq ?_
 refine wpIn_seq ?_
 refine wpIn_region_lit ?_
 refine st_v hS rfl rfl (run_fieldAddr fa25_0 hS rfl) fun a hS => st_v hS rfl rfl (run_load_one (i := 0) Tryz.isAgg22 hS rfl rfl rfl) fun a hS => st_v hS rfl rfl (run_len_slice Tryz.underlying22 hS rfl) fun a hS => st_v hS rfl rfl (run_bin hS rfl rfl rfl) fun a hS => st_v hS rfl rfl (run_move hS rfl) fun a hS => ?_
 refine st_split (d := 8) hS rfl (fun hc1 hS => ?_) (fun hc1 hS => ?_)
 ·
  try simp only [ty] at hc1
  refine st_skip hS (hS.unwanted rfl rfl rfl rfl) rfl fun a hS => st_skip hS (hS.unwanted rfl rfl rfl rfl) rfl fun a hS => st_skip hS (hS.unwanted rfl rfl rfl rfl) rfl fun a hS => st_skip hS (hS.unwanted rfl rfl rfl rfl) rfl fun a hS => st_v hS rfl rfl (run_pick_t hS rfl rfl) fun a hS => st_v hS rfl rfl (run_move hS rfl) fun a hS => st_skip hS (hS.unwanted rfl rfl rfl rfl) rfl fun a hS => st_skip hS (hS.unwanted rfl rfl rfl rfl) rfl fun a hS => st_skip hS (hS.unwanted rfl rfl rfl rfl) rfl fun a hS => st_skip hS (hS.unwanted rfl rfl rfl rfl) rfl fun a hS => st_v hS rfl rfl (run_pick_t hS rfl rfl) fun a hS => wl_nil ?_
  refine st_cond_t hS rfl ?_
  refine wpIn_seq ?_
  refine wpIn_region_lit ?_
  refine st_v hS rfl rfl (run_assign hS rfl) fun a hS => wl_nil ?_
  refine wpIn_ret ?_
  repeat (first | refine q_ret ?_ | refine q_block_ret ?_)
  refine hS.done (res1 (fn := Tryz.f98) (r1 := .tmp 2) rfl (rv_tmp hS rfl)) ?_
  refine vb ?_; simp [farT, show 15 < t.X.length by omega]
 ·
  try simp only [ty] at hc1
  refine st_v hS (hS.wanted rfl rfl rfl) rfl (run_fieldAddr fa25_1 hS rfl) fun a hS => st_v hS (hS.wanted rfl rfl rfl) rfl (run_load_one (i := 0) Tryz.isAgg22 hS rfl rfl rfl) fun a hS => st_v hS (hS.wanted rfl rfl rfl) rfl (run_len_slice Tryz.underlying22 hS rfl) fun a hS => st_v hS (hS.wanted rfl rfl rfl) rfl (run_bin hS rfl rfl rfl) fun a hS => st_v hS rfl rfl (run_pick_f hS rfl rfl) fun a hS => st_v hS rfl rfl (run_move hS rfl) fun a hS => ?_
  refine st_split (d := 14) hS rfl (fun hc2 hS => ?_) (fun hc2 hS => ?_)
  ·
   try simp only [ty] at hc2
   refine st_skip hS (hS.unwanted rfl rfl rfl rfl) rfl fun a hS => st_skip hS (hS.unwanted rfl rfl rfl rfl) rfl fun a hS => st_skip hS (hS.unwanted rfl rfl rfl rfl) rfl fun a hS => st_skip hS (hS.unwanted rfl rfl rfl rfl) rfl fun a hS => st_v hS rfl rfl (run_pick_t hS rfl rfl) fun a hS => wl_nil ?_
   refine st_cond_t hS rfl ?_
   refine wpIn_seq ?_
   refine wpIn_region_lit ?_
   refine st_v hS rfl rfl (run_assign hS rfl) fun a hS => wl_nil ?_
   refine wpIn_ret ?_
   repeat (first | refine q_ret ?_ | refine q_block_ret ?_)
   refine hS.done (res1 (fn := Tryz.f98) (r1 := .tmp 2) rfl (rv_tmp hS rfl)) ?_
   refine vb ?_; simp [farT, show 15 < t.Y.length by omega]
  ·
   try simp only [ty] at hc2
   refine st_v hS (hS.wanted rfl rfl rfl) rfl (run_fieldAddr fa25_2 hS rfl) fun a hS => st_v hS (hS.wanted rfl rfl rfl) rfl (run_load_one (i := 0) Tryz.isAgg23 hS rfl rfl rfl) fun a hS => st_v hS (hS.wanted rfl rfl rfl) rfl (run_len_slice Tryz.underlying23 hS rfl) fun a hS => st_v hS (hS.wanted rfl rfl rfl) rfl (run_bin hS rfl rfl rfl) fun a hS => st_v hS rfl rfl (run_pick_f hS rfl rfl) fun a hS => wl_nil ?_
   refine st_cond hS rfl (fun hc3 => ?_) (fun hc3 => ?_)
   ·
    try simp only [ty] at hc3
    refine wpIn_seq ?_
    refine wpIn_region_lit ?_
    refine st_v hS rfl rfl (run_assign hS rfl) fun a hS => wl_nil ?_
    refine wpIn_ret ?_
    repeat (first | refine q_ret ?_ | refine q_block_ret ?_)
    refine hS.done (res1 (fn := Tryz.f98) (r1 := .tmp 2) rfl (rv_tmp hS rfl)) ?_
    refine vb ?_; simp [farT, show 15 < t.V.length by omega]
   ·
    try simp only [ty] at hc3
    refine wpIn_skip ?_
    refine wpIn_seq ?_
    refine wpIn_seq ?_
    refine wpIn_region_lit ?_
    refine st_v hS rfl rfl (run_assign hS rfl) fun a hS => wl_nil ?_
    refine wpIn_block ?_
    refine st_loop2 (α := Nat) (fun i => [(3, .int .i64 (((i : Nat) : Int)))]) [(0, _), (1, _)] (fun l _ => l) (fun i => i ≤ t.V.length ∧ ∀ j, j < i → (rowOf t.V j).length ≤ 15) (fun i => t.V.length - i) (0) hS (Sub.cons rfl (Sub.cons rfl (Sub.cons rfl Sub.nil))) rfl (⟨Nat.zero_le _, fun j hj => absurd hj (Nat.not_lt_zero j)⟩) (fun i W a hφ hS => ?_)
    dsimp only [setB, List.cons_append, List.nil_append, List.take] at hS
    obtain ⟨hi, hg⟩ := hφ
    refine wpIn_seq ?_
    refine wpIn_seq ?_
    refine wpIn_region_lit ?_
    refine st_v hS rfl rfl (run_move hS rfl) fun a hS => st_v hS rfl rfl (run_fieldAddr fa25_2 hS rfl) fun a hS => st_v hS rfl rfl (run_load_one (i := 0) Tryz.isAgg23 hS rfl rfl rfl) fun a hS => st_v hS rfl rfl (run_len_slice Tryz.underlying23 hS rfl) fun a hS => st_v hS rfl rfl (run_bin hS rfl rfl rfl) fun a hS => wl_nil ?_
    refine st_cond hS rfl (fun hc4 => ?_) (fun hc4 => ?_)
    ·
     try simp only [ty] at hc4
     refine wpIn_skip ?_
     refine wpIn_seq ?_
     refine wpIn_block ?_
     refine wpIn_seq ?_
     refine wpIn_region_lit ?_
     refine st_v hS rfl rfl (run_fieldAddr fa25_2 hS rfl) fun a hS => st_v hS rfl rfl (run_load_one (i := 0) Tryz.isAgg23 hS rfl rfl rfl) fun a hS => st_v hS rfl rfl (run_move hS rfl) fun a hS => ?_
     obtain ⟨ad0, s0, hA0, hL0, hR0⟩ := sl_rowB ((fun W hC => (Ht W hC).2.2) _ (Below.refl _ _)) (i := ((i : Nat) : Int)) (j := i) (by omega) (by omega)
     refine st_v hS rfl rfl (run_indexAddr Tryz.underlying23 Tryz.sizeOf22 hS rfl rfl hA0 (by omega) (by omega)) fun a hS => st_v hS rfl rfl (run_load_cell Tryz.isAgg22 hS rfl (hL0 _ hS.below)) fun a hS => st_v hS rfl rfl (run_len_slice Tryz.underlying22 hS rfl) fun a hS => st_v hS rfl rfl (run_bin hS rfl rfl rfl) fun a hS => wl_nil ?_
     refine st_cond hS rfl (fun hc5 => ?_) (fun hc5 => ?_)
     ·
      try simp only [ty] at hc5
      refine wpIn_seq ?_
      refine wpIn_region_lit ?_
      refine st_v hS rfl rfl (run_assign hS rfl) fun a hS => wl_nil ?_
      refine wpIn_ret ?_
      repeat (first | refine q_ret ?_ | refine q_block_ret ?_)
      refine hS.done (res1 (fn := Tryz.f98) (r1 := .tmp 2) rfl (rv_tmp hS rfl)) ?_
      have h : (t.V.any fun row => decide (15 < row.length)) = true := any_good (i := i) (d := []) (by omega) (by simp only [decide_eq_true_eq]; unfold rowOf at *; omega)
      refine vb ?_; simp [farT, h]
     ·
      try simp only [ty] at hc5
      refine wpIn_skip ?_
      refine wpIn_region_lit ?_
      refine st_v hS rfl rfl (run_move hS rfl) fun a hS => st_v hS rfl rfl (run_add (t := ((i + 1 : Nat) : Int)) hS rfl rfl (by omega) (by omega) (by omega)) fun a hS => st_v hS rfl rfl (run_assign hS rfl) fun a hS => wl_nil ?_
      refine ⟨i + 1, ⟨⟨by omega, fun j hj => ?_⟩, by omega⟩, (hS.sub (Sub.cons rfl (Sub.cons rfl (Sub.cons rfl Sub.nil))))⟩
      by_cases e : j = i
      · subst e; omega
      · exact hg j (by omega)
    ·
     try simp only [ty] at hc4
     refine wpIn_exit ?_
     refine wpIn_seq ?_
     refine wpIn_region_lit ?_
     refine st_v hS rfl rfl (run_assign hS rfl) fun a hS => wl_nil ?_
     refine wpIn_ret ?_
     repeat (first | refine q_ret ?_ | refine q_block_ret ?_)
     refine hS.done (res1 (fn := Tryz.f98) (r1 := .tmp 2) rfl (rv_tmp hS rfl)) ?_
     have h : (t.V.any fun row => decide (15 < row.length)) = false := any_bad (d := []) fun j hj => by have := hg j (by omega); simp only [decide_eq_false_iff_not]; unfold rowOf at *; omega
     refine vb ?_; simp [farT, h]; omega


set_option maxHeartbeats 2000000 in
set_option maxRecDepth 100000 in
theorem law02_Far  (Vr : RV) (r : Rot) {w : World} {Fr : Nat → Prop} (hr : RotR Fr w Vr r)  : Ret Tryz.prog 32 [.agg (rotC Vr r).toArray] w (fun v _ => v = .bool (farR r)) := by
 refine ret_start (n := 41) Tryz.func32 rfl rfl rfl (fun a hS => ?_)
 have Hr : ∀ W, Below w.heap.size w W → RotR Fr W Vr r := fun W hb => hr.move (keep_of hb)
 refine wpIn_seq ?_
 refine wpIn_region_lit ?_
 refine st_box_agg hS rfl rfl rfl fun W a b0 hS => st_v hS rfl rfl (run_assign hS rfl) fun a hS => wl_nil ?_
 refine wpIn_seq ?_
 refine wpIn_region_lit ?_
 refine st_v hS rfl rfl (run_fieldAddr fa27_0 hS rfl) fun a hS => st_v hS rfl rfl (run_load_agg (i := 0) (vs := [_, _, _]) Tryz.isAgg25 Tryz.sizeOf25 hS rfl rfl rfl ⟨rfl, rfl, rfl, trivial⟩) fun a hS => st_call (law01_Far Vr.hover r.hover ((fun W hC => (Hr W hC).hover) _ hS.below)) Tryz.call98 hS rfl rfl rfl fun v W a hR hB hlt hS => ?_
 subst hR
 refine st_v hS rfl rfl (run_move hS rfl) fun a hS => ?_
 refine st_split (d := 6) hS rfl (fun hc1 hS => ?_) (fun hc1 hS => ?_)
 ·
  try simp only [ty] at hc1
  refine st_skip hS (hS.unwanted rfl rfl rfl rfl) rfl fun a hS => st_skip hS (hS.unwanted rfl rfl rfl rfl) rfl fun a hS => st_skip hS (hS.unwanted rfl rfl rfl rfl) rfl fun a hS => st_v hS rfl rfl (run_pick_t hS rfl rfl) fun a hS => st_v hS rfl rfl (run_move hS rfl) fun a hS => st_skip hS (hS.unwanted rfl rfl rfl rfl) rfl fun a hS => st_skip hS (hS.unwanted rfl rfl rfl rfl) rfl fun a hS => st_skip hS (hS.unwanted rfl rfl rfl rfl) rfl fun a hS => st_v hS rfl rfl (run_pick_t hS rfl rfl) fun a hS => st_v hS rfl rfl (run_move hS rfl) fun a hS => st_skip hS (hS.unwanted rfl rfl rfl rfl) rfl fun a hS => st_skip hS (hS.unwanted rfl rfl rfl rfl) rfl fun a hS => st_skip hS (hS.unwanted rfl rfl rfl rfl) rfl fun a hS => st_v hS rfl rfl (run_pick_t hS rfl rfl) fun a hS => st_v hS rfl rfl (run_move hS rfl) fun a hS => st_skip hS (hS.unwanted rfl rfl rfl rfl) rfl fun a hS => st_skip hS (hS.unwanted rfl rfl rfl rfl) rfl fun a hS => st_skip hS (hS.unwanted rfl rfl rfl rfl) rfl fun a hS => st_v hS rfl rfl (run_pick_t hS rfl rfl) fun a hS => st_v hS rfl rfl (run_move hS rfl) fun a hS => st_skip hS (hS.unwanted rfl rfl rfl rfl) rfl fun a hS => st_skip hS (hS.unwanted rfl rfl rfl rfl) rfl fun a hS => st_skip hS (hS.unwanted rfl rfl rfl rfl) rfl fun a hS => st_v hS rfl rfl (run_pick_t hS rfl rfl) fun a hS => st_v hS rfl rfl (run_move hS rfl) fun a hS => st_skip hS (hS.unwanted rfl rfl rfl rfl) rfl fun a hS => st_skip hS (hS.unwanted rfl rfl rfl rfl) rfl fun a hS => st_skip hS (hS.unwanted rfl rfl rfl rfl) rfl fun a hS => st_v hS rfl rfl (run_pick_t hS rfl rfl) fun a hS => st_v hS rfl rfl (run_move hS rfl) fun a hS => st_skip hS (hS.unwanted rfl rfl rfl rfl) rfl fun a hS => st_skip hS (hS.unwanted rfl rfl rfl rfl) rfl fun a hS => st_skip hS (hS.unwanted rfl rfl rfl rfl) rfl fun a hS => st_v hS rfl rfl (run_pick_t hS rfl rfl) fun a hS => st_v hS rfl rfl (run_assign hS rfl) fun a hS => wl_nil ?_
  have hS := hS.sub (κ' := [(0, _), (1, _), (2, _)]) (Sub.cons rfl (Sub.cons rfl (Sub.cons rfl Sub.nil)))
  refine wpIn_ret ?_
  repeat (first | refine q_ret ?_ | refine q_block_ret ?_)
  refine hS.done (res1 (fn := Tryz.f32) (r1 := .tmp 2) rfl (rv_tmp hS rfl)) ?_
  refine vb ?_; simp [farR, hc1]
 ·
  try simp only [ty] at hc1
  refine st_v hS (hS.wanted rfl rfl rfl) rfl (run_fieldAddr fa27_1 hS rfl) fun a hS => st_v hS (hS.wanted rfl rfl rfl) rfl (run_load_agg (i := 0) (vs := [_, _, _]) Tryz.isAgg25 Tryz.sizeOf25 hS rfl rfl rfl ⟨rfl, rfl, rfl, trivial⟩) fun a hS => st_call (law01_Far Vr.ground r.ground ((fun W hC => (Hr W hC).ground) _ hS.below)) Tryz.call98 hS (hS.wanted rfl rfl rfl) rfl rfl fun v W a hR hB hlt hS => ?_
  subst hR
  refine st_v hS rfl rfl (run_pick_f hS rfl rfl) fun a hS => st_v hS rfl rfl (run_move hS rfl) fun a hS => ?_
  refine st_split (d := 11) hS rfl (fun hc2 hS => ?_) (fun hc2 hS => ?_)
  ·
   try simp only [ty] at hc2
   refine st_skip hS (hS.unwanted rfl rfl rfl rfl) rfl fun a hS => st_skip hS (hS.unwanted rfl rfl rfl rfl) rfl fun a hS => st_skip hS (hS.unwanted rfl rfl rfl rfl) rfl fun a hS => st_v hS rfl rfl (run_pick_t hS rfl rfl) fun a hS => st_v hS rfl rfl (run_move hS rfl) fun a hS => st_skip hS (hS.unwanted rfl rfl rfl rfl) rfl fun a hS => st_skip hS (hS.unwanted rfl rfl rfl rfl) rfl fun a hS => st_skip hS (hS.unwanted rfl rfl rfl rfl) rfl fun a hS => st_v hS rfl rfl (run_pick_t hS rfl rfl) fun a hS => st_v hS rfl rfl (run_move hS rfl) fun a hS => st_skip hS (hS.unwanted rfl rfl rfl rfl) rfl fun a hS => st_skip hS (hS.unwanted rfl rfl rfl rfl) rfl fun a hS => st_skip hS (hS.unwanted rfl rfl rfl rfl) rfl fun a hS => st_v hS rfl rfl (run_pick_t hS rfl rfl) fun a hS => st_v hS rfl rfl (run_move hS rfl) fun a hS => st_skip hS (hS.unwanted rfl rfl rfl rfl) rfl fun a hS => st_skip hS (hS.unwanted rfl rfl rfl rfl) rfl fun a hS => st_skip hS (hS.unwanted rfl rfl rfl rfl) rfl fun a hS => st_v hS rfl rfl (run_pick_t hS rfl rfl) fun a hS => st_v hS rfl rfl (run_move hS rfl) fun a hS => st_skip hS (hS.unwanted rfl rfl rfl rfl) rfl fun a hS => st_skip hS (hS.unwanted rfl rfl rfl rfl) rfl fun a hS => st_skip hS (hS.unwanted rfl rfl rfl rfl) rfl fun a hS => st_v hS rfl rfl (run_pick_t hS rfl rfl) fun a hS => st_v hS rfl rfl (run_move hS rfl) fun a hS => st_skip hS (hS.unwanted rfl rfl rfl rfl) rfl fun a hS => st_skip hS (hS.unwanted rfl rfl rfl rfl) rfl fun a hS => st_skip hS (hS.unwanted rfl rfl rfl rfl) rfl fun a hS => st_v hS rfl rfl (run_pick_t hS rfl rfl) fun a hS => st_v hS rfl rfl (run_assign hS rfl) fun a hS => wl_nil ?_
   have hS := hS.sub (κ' := [(0, _), (1, _), (2, _)]) (Sub.cons rfl (Sub.cons rfl (Sub.cons rfl Sub.nil)))
   refine wpIn_ret ?_
   repeat (first | refine q_ret ?_ | refine q_block_ret ?_)
   refine hS.done (res1 (fn := Tryz.f32) (r1 := .tmp 2) rfl (rv_tmp hS rfl)) ?_
   refine vb ?_; simp [farR, hc1, hc2]
  ·
   try simp only [ty] at hc2
   refine st_v hS (hS.wanted rfl rfl rfl) rfl (run_fieldAddr fa27_2 hS rfl) fun a hS => st_v hS (hS.wanted rfl rfl rfl) rfl (run_load_agg (i := 0) (vs := [_, _, _]) Tryz.isAgg25 Tryz.sizeOf25 hS rfl rfl rfl ⟨rfl, rfl, rfl, trivial⟩) fun a hS => st_call (law01_Far Vr.level r.level ((fun W hC => (Hr W hC).level) _ hS.below)) Tryz.call98 hS (hS.wanted rfl rfl rfl) rfl rfl fun v W a hR hB hlt hS => ?_
   subst hR
   refine st_v hS rfl rfl (run_pick_f hS rfl rfl) fun a hS => st_v hS rfl rfl (run_move hS rfl) fun a hS => ?_
   refine st_split (d := 16) hS rfl (fun hc3 hS => ?_) (fun hc3 hS => ?_)
   ·
    try simp only [ty] at hc3
    refine st_skip hS (hS.unwanted rfl rfl rfl rfl) rfl fun a hS => st_skip hS (hS.unwanted rfl rfl rfl rfl) rfl fun a hS => st_skip hS (hS.unwanted rfl rfl rfl rfl) rfl fun a hS => st_v hS rfl rfl (run_pick_t hS rfl rfl) fun a hS => st_v hS rfl rfl (run_move hS rfl) fun a hS => st_skip hS (hS.unwanted rfl rfl rfl rfl) rfl fun a hS => st_skip hS (hS.unwanted rfl rfl rfl rfl) rfl fun a hS => st_skip hS (hS.unwanted rfl rfl rfl rfl) rfl fun a hS => st_v hS rfl rfl (run_pick_t hS rfl rfl) fun a hS => st_v hS rfl rfl (run_move hS rfl) fun a hS => st_skip hS (hS.unwanted rfl rfl rfl rfl) rfl fun a hS => st_skip hS (hS.unwanted rfl rfl rfl rfl) rfl fun a hS => st_skip hS (hS.unwanted rfl rfl rfl rfl) rfl fun a hS => st_v hS rfl rfl (run_pick_t hS rfl rfl) fun a hS => st_v hS rfl rfl (run_move hS rfl) fun a hS => st_skip hS (hS.unwanted rfl rfl rfl rfl) rfl fun a hS => st_skip hS (hS.unwanted rfl rfl rfl rfl) rfl fun a hS => st_skip hS (hS.unwanted rfl rfl rfl rfl) rfl fun a hS => st_v hS rfl rfl (run_pick_t hS rfl rfl) fun a hS => st_v hS rfl rfl (run_move hS rfl) fun a hS => st_skip hS (hS.unwanted rfl rfl rfl rfl) rfl fun a hS => st_skip hS (hS.unwanted rfl rfl rfl rfl) rfl fun a hS => st_skip hS (hS.unwanted rfl rfl rfl rfl) rfl fun a hS => st_v hS rfl rfl (run_pick_t hS rfl rfl) fun a hS => st_v hS rfl rfl (run_assign hS rfl) fun a hS => wl_nil ?_
    have hS := hS.sub (κ' := [(0, _), (1, _), (2, _)]) (Sub.cons rfl (Sub.cons rfl (Sub.cons rfl Sub.nil)))
    refine wpIn_ret ?_
    repeat (first | refine q_ret ?_ | refine q_block_ret ?_)
    refine hS.done (res1 (fn := Tryz.f32) (r1 := .tmp 2) rfl (rv_tmp hS rfl)) ?_
    refine vb ?_; simp [farR, hc1, hc2, hc3]
   ·
    try simp only [ty] at hc3
    refine st_v hS (hS.wanted rfl rfl rfl) rfl (run_fieldAddr fa27_3 hS rfl) fun a hS => st_v hS (hS.wanted rfl rfl rfl) rfl (run_load_agg (i := 0) (vs := [_, _, _]) Tryz.isAgg25 Tryz.sizeOf25 hS rfl rfl rfl ⟨rfl, rfl, rfl, trivial⟩) fun a hS => st_call (law01_Far Vr.power r.power ((fun W hC => (Hr W hC).power) _ hS.below)) Tryz.call98 hS (hS.wanted rfl rfl rfl) rfl rfl fun v W a hR hB hlt hS => ?_
    subst hR
    refine st_v hS rfl rfl (run_pick_f hS rfl rfl) fun a hS => st_v hS rfl rfl (run_move hS rfl) fun a hS => ?_
    refine st_split (d := 21) hS rfl (fun hc4 hS => ?_) (fun hc4 hS => ?_)
    ·
     try simp only [ty] at hc4
     refine st_skip hS (hS.unwanted rfl rfl rfl rfl) rfl fun a hS => st_skip hS (hS.unwanted rfl rfl rfl rfl) rfl fun a hS => st_skip hS (hS.unwanted rfl rfl rfl rfl) rfl fun a hS => st_v hS rfl rfl (run_pick_t hS rfl rfl) fun a hS => st_v hS rfl rfl (run_move hS rfl) fun a hS => st_skip hS (hS.unwanted rfl rfl rfl rfl) rfl fun a hS => st_skip hS (hS.unwanted rfl rfl rfl rfl) rfl fun a hS => st_skip hS (hS.unwanted rfl rfl rfl rfl) rfl fun a hS => st_v hS rfl rfl (run_pick_t hS rfl rfl) fun a hS => st_v hS rfl rfl (run_move hS rfl) fun a hS => st_skip hS (hS.unwanted rfl rfl rfl rfl) rfl fun a hS => st_skip hS (hS.unwanted rfl rfl rfl rfl) rfl fun a hS => st_skip hS (hS.unwanted rfl rfl rfl rfl) rfl fun a hS => st_v hS rfl rfl (run_pick_t hS rfl rfl) fun a hS => st_v hS rfl rfl (run_move hS rfl) fun a hS => st_skip hS (hS.unwanted rfl rfl rfl rfl) rfl fun a hS => st_skip hS (hS.unwanted rfl rfl rfl rfl) rfl fun a hS => st_skip hS (hS.unwanted rfl rfl rfl rfl) rfl fun a hS => st_v hS rfl rfl (run_pick_t hS rfl rfl) fun a hS => st_v hS rfl rfl (run_assign hS rfl) fun a hS => wl_nil ?_
     have hS := hS.sub (κ' := [(0, _), (1, _), (2, _)]) (Sub.cons rfl (Sub.cons rfl (Sub.cons rfl Sub.nil)))
     refine wpIn_ret ?_
     repeat (first | refine q_ret ?_ | refine q_block_ret ?_)
     refine hS.done (res1 (fn := Tryz.f32) (r1 := .tmp 2) rfl (rv_tmp hS rfl)) ?_
     refine vb ?_; simp [farR, hc1, hc2, hc3, hc4]
    ·
     try simp only [ty] at hc4
     refine st_v hS (hS.wanted rfl rfl rfl) rfl (run_fieldAddr fa27_4 hS rfl) fun a hS => st_v hS (hS.wanted rfl rfl rfl) rfl (run_load_agg (i := 0) (vs := [_, _, _]) Tryz.isAgg25 Tryz.sizeOf25 hS rfl rfl rfl ⟨rfl, rfl, rfl, trivial⟩) fun a hS => st_call (law01_Far Vr.never r.never ((fun W hC => (Hr W hC).never) _ hS.below)) Tryz.call98 hS (hS.wanted rfl rfl rfl) rfl rfl fun v W a hR hB hlt hS => ?_
     subst hR
     refine st_v hS rfl rfl (run_pick_f hS rfl rfl) fun a hS => st_v hS rfl rfl (run_move hS rfl) fun a hS => ?_
     refine st_split (d := 26) hS rfl (fun hc5 hS => ?_) (fun hc5 hS => ?_)
     ·
      try simp only [ty] at hc5
      refine st_skip hS (hS.unwanted rfl rfl rfl rfl) rfl fun a hS => st_skip hS (hS.unwanted rfl rfl rfl rfl) rfl fun a hS => st_skip hS (hS.unwanted rfl rfl rfl rfl) rfl fun a hS => st_v hS rfl rfl (run_pick_t hS rfl rfl) fun a hS => st_v hS rfl rfl (run_move hS rfl) fun a hS => st_skip hS (hS.unwanted rfl rfl rfl rfl) rfl fun a hS => st_skip hS (hS.unwanted rfl rfl rfl rfl) rfl fun a hS => st_skip hS (hS.unwanted rfl rfl rfl rfl) rfl fun a hS => st_v hS rfl rfl (run_pick_t hS rfl rfl) fun a hS => st_v hS rfl rfl (run_move hS rfl) fun a hS => st_skip hS (hS.unwanted rfl rfl rfl rfl) rfl fun a hS => st_skip hS (hS.unwanted rfl rfl rfl rfl) rfl fun a hS => st_skip hS (hS.unwanted rfl rfl rfl rfl) rfl fun a hS => st_v hS rfl rfl (run_pick_t hS rfl rfl) fun a hS => st_v hS rfl rfl (run_assign hS rfl) fun a hS => wl_nil ?_
      have hS := hS.sub (κ' := [(0, _), (1, _), (2, _)]) (Sub.cons rfl (Sub.cons rfl (Sub.cons rfl Sub.nil)))
      refine wpIn_ret ?_
      repeat (first | refine q_ret ?_ | refine q_block_ret ?_)
      refine hS.done (res1 (fn := Tryz.f32) (r1 := .tmp 2) rfl (rv_tmp hS rfl)) ?_
      refine vb ?_; simp [farR, hc1, hc2, hc3, hc4, hc5]
     ·
      try simp only [ty] at hc5
      refine st_v hS (hS.wanted rfl rfl rfl) rfl (run_fieldAddr fa27_5 hS rfl) fun a hS => st_v hS (hS.wanted rfl rfl rfl) rfl (run_load_agg (i := 0) (vs := [_, _, _]) Tryz.isAgg25 Tryz.sizeOf25 hS rfl rfl rfl ⟨rfl, rfl, rfl, trivial⟩) fun a hS => st_call (law01_Far Vr.low r.low ((fun W hC => (Hr W hC).low) _ hS.below)) Tryz.call98 hS (hS.wanted rfl rfl rfl) rfl rfl fun v W a hR hB hlt hS => ?_
      subst hR
      refine st_v hS rfl rfl (run_pick_f hS rfl rfl) fun a hS => st_v hS rfl rfl (run_move hS rfl) fun a hS => ?_
      refine st_split (d := 31) hS rfl (fun hc6 hS => ?_) (fun hc6 hS => ?_)
      ·
       try simp only [ty] at hc6
       refine st_skip hS (hS.unwanted rfl rfl rfl rfl) rfl fun a hS => st_skip hS (hS.unwanted rfl rfl rfl rfl) rfl fun a hS => st_skip hS (hS.unwanted rfl rfl rfl rfl) rfl fun a hS => st_v hS rfl rfl (run_pick_t hS rfl rfl) fun a hS => st_v hS rfl rfl (run_move hS rfl) fun a hS => st_skip hS (hS.unwanted rfl rfl rfl rfl) rfl fun a hS => st_skip hS (hS.unwanted rfl rfl rfl rfl) rfl fun a hS => st_skip hS (hS.unwanted rfl rfl rfl rfl) rfl fun a hS => st_v hS rfl rfl (run_pick_t hS rfl rfl) fun a hS => st_v hS rfl rfl (run_assign hS rfl) fun a hS => wl_nil ?_
       have hS := hS.sub (κ' := [(0, _), (1, _), (2, _)]) (Sub.cons rfl (Sub.cons rfl (Sub.cons rfl Sub.nil)))
       refine wpIn_ret ?_
       repeat (first | refine q_ret ?_ | refine q_block_ret ?_)
       refine hS.done (res1 (fn := Tryz.f32) (r1 := .tmp 2) rfl (rv_tmp hS rfl)) ?_
       refine vb ?_; simp [farR, hc1, hc2, hc3, hc4, hc5, hc6]
      ·
       try simp only [ty] at hc6
       refine st_v hS (hS.wanted rfl rfl rfl) rfl (run_fieldAddr fa27_6 hS rfl) fun a hS => st_v hS (hS.wanted rfl rfl rfl) rfl (run_load_agg (i := 0) (vs := [_, _, _]) Tryz.isAgg25 Tryz.sizeOf25 hS rfl rfl rfl ⟨rfl, rfl, rfl, trivial⟩) fun a hS => st_call (law01_Far Vr.high r.high ((fun W hC => (Hr W hC).high) _ hS.below)) Tryz.call98 hS (hS.wanted rfl rfl rfl) rfl rfl fun v W a hR hB hlt hS => ?_
       subst hR
       refine st_v hS rfl rfl (run_pick_f hS rfl rfl) fun a hS => st_v hS rfl rfl (run_move hS rfl) fun a hS => ?_
       refine st_split (d := 36) hS rfl (fun hc7 hS => ?_) (fun hc7 hS => ?_)
       ·
        try simp only [ty] at hc7
        refine st_skip hS (hS.unwanted rfl rfl rfl rfl) rfl fun a hS => st_skip hS (hS.unwanted rfl rfl rfl rfl) rfl fun a hS => st_skip hS (hS.unwanted rfl rfl rfl rfl) rfl fun a hS => st_v hS rfl rfl (run_pick_t hS rfl rfl) fun a hS => st_v hS rfl rfl (run_assign hS rfl) fun a hS => wl_nil ?_
        have hS := hS.sub (κ' := [(0, _), (1, _), (2, _)]) (Sub.cons rfl (Sub.cons rfl (Sub.cons rfl Sub.nil)))
        refine wpIn_ret ?_
        repeat (first | refine q_ret ?_ | refine q_block_ret ?_)
        refine hS.done (res1 (fn := Tryz.f32) (r1 := .tmp 2) rfl (rv_tmp hS rfl)) ?_
        refine vb ?_; simp [farR, hc1, hc2, hc3, hc4, hc5, hc6, hc7]
       ·
        try simp only [ty] at hc7
        refine st_v hS (hS.wanted rfl rfl rfl) rfl (run_fieldAddr fa27_7 hS rfl) fun a hS => st_v hS (hS.wanted rfl rfl rfl) rfl (run_load_agg (i := 0) (vs := [_, _, _]) Tryz.isAgg25 Tryz.sizeOf25 hS rfl rfl rfl ⟨rfl, rfl, rfl, trivial⟩) fun a hS => st_call (law01_Far Vr.glide r.glide ((fun W hC => (Hr W hC).glide) _ hS.below)) Tryz.call98 hS (hS.wanted rfl rfl rfl) rfl rfl fun v W a hR hB hlt hS => ?_
        subst hR
        refine st_v hS rfl rfl (run_pick_f hS rfl rfl) fun a hS => st_v hS rfl rfl (run_assign hS rfl) fun a hS => wl_nil ?_
        have hS := hS.sub (κ' := [(0, _), (1, _), (2, _)]) (Sub.cons rfl (Sub.cons rfl (Sub.cons rfl Sub.nil)))
        refine wpIn_ret ?_
        repeat (first | refine q_ret ?_ | refine q_block_ret ?_)
        refine hS.done (res1 (fn := Tryz.f32) (r1 := .tmp 2) rfl (rv_tmp hS rfl)) ?_
        refine vb ?_; simp [farR, hc1, hc2, hc3, hc4, hc5, hc6, hc7]

end Go.Proofs.YtdnodlgebpnfoaaGreat
