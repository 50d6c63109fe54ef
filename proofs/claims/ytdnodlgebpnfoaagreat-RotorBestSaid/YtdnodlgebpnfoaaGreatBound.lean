/- The program's bounds of tables, values at points, parts and sums of spans, walked. -/
import Derived.Test.YtdnodlgebpnfoaaGreatCorners
import Derived.Test.YtdnodlgebpnfoaaGreatLaw2
namespace Go.Proofs.YtdnodlgebpnfoaaGreat
open Go Go.RowKit Go.Shelf Sw
set_option linter.unusedVariables false
set_option linter.unusedSimpArgs false

theorem t2s {p q : Span} {e e' : Int} (h1 : p = q) (h2 : e = e') : Value.tuple #[.agg (spanC p).toArray, .int .i64 e] = Value.tuple #[.agg (spanC q).toArray, .int .i64 e'] := by subst h1 h2; rfl
theorem fl_cross {a b c d : Int} (hb : 0 < b) (hd : 0 < d) (h : a * d ≤ c * b) : fl a b ≤ fl c d := by
  unfold fl
  rw [← Int.mul_ediv_mul_of_pos_left a b hd, ← Int.mul_ediv_mul_of_pos_left c d hb, Int.mul_comm d b]
  exact Int.ediv_le_ediv (Int.mul_pos hb hd) h
theorem ce_cross {a b c d : Int} (hb : 0 < b) (hd : 0 < d) (h : a * d ≤ c * b) : ce a b ≤ ce c d := by
  have := fl_cross (a := -c) (b := d) (c := -a) (d := b) hd hb (by rw [Int.neg_mul, Int.neg_mul]; omega)
  unfold ce fl at *
  omega
/-- The extremes are the bounds. -/
theorem ext_bnd {t : Tab} {p q : Span} (hb : ∀ c, (1 ≤ (p4 t p q c).d ∧ (p4 t p q c).d ≤ 100000000) ∧ (-400000000000000 ≤ (p4 t p q c).n ∧ (p4 t p q c).n ≤ 400000000000000)) {lo hi : P4}
    (h : Ext t p q (upTo (stops t.Y q.lo q.hi).length (stops t.X p.lo p.hi).length 0) true lo hi) : bnd t p q = ⟨fl lo.n lo.d, ce hi.n hi.d⟩ := by
  obtain ⟨⟨c, hc, e1⟩, ⟨c', hc', e2⟩, hall⟩ := h.some rfl
  have hd1 := (hb c).1.1; have hd2 := (hb c').1.1
  have at_ : ∀ c : Nat × Nat, c ∈ upTo (stops t.Y q.lo q.hi).length (stops t.X p.lo p.hi).length 0 → fl (p4 t p q c).n (p4 t p q c).d = lowAt t (ix (stops t.X p.lo p.hi) c.1) (ix (stops t.Y q.lo q.hi) c.2) ∧ ce (p4 t p q c).n (p4 t p q c).d = highAt t (ix (stops t.X p.lo p.hi) c.1) (ix (stops t.Y q.lo q.hi) c.2) ∧ c.1 < (stops t.X p.lo p.hi).length ∧ c.2 < (stops t.Y q.lo q.hi).length := by
    rintro ⟨i, j⟩ hc
    obtain ⟨hi, hj⟩ := mem_upTo.1 hc
    have e := ptAt_of (t := t) (p := p) (q := q) hi hj
    refine ⟨?_, ?_, hi, hj⟩ <;> simp only [p4, e, fracAt, lowAt, highAt]
  have back : ∀ b : Int × Int, b ∈ corners t p.lo p.hi q.lo q.hi → ∃ c : Nat × Nat, c ∈ upTo (stops t.Y q.lo q.hi).length (stops t.X p.lo p.hi).length 0 ∧ b = (ix (stops t.X p.lo p.hi) c.1, ix (stops t.Y q.lo q.hi) c.2) := by
    rintro ⟨x, y⟩ hm
    obtain ⟨h1, h2⟩ := mem_corners.1 hm
    obtain ⟨i, hi, e1⟩ := mem_ix.1 h1
    obtain ⟨j, hj, e2⟩ := mem_ix.1 h2
    exact ⟨(i, j), mem_upTo.2 ⟨hi, hj⟩, by simp only at e1 e2; rw [e1, e2]⟩
  have f1 : boundLow t p.lo p.hi q.lo q.hi = fl lo.n lo.d := by
    refine minL_eq ?_ fun b hb' => ?_
    · obtain ⟨a1, a2, a3, a4⟩ := at_ c hc
      rw [e1, a1]; exact Least.at_ (f := lowAt t) a3 a4
    · obtain ⟨z, hz, rfl⟩ := List.mem_map.1 hb'
      obtain ⟨c0, h0, rfl⟩ := back z hz
      obtain ⟨a1, a2, a3, a4⟩ := at_ c0 h0
      dsimp only
      rw [← a1]
      exact fl_cross (by rw [e1]; omega) (by have := (hb c0).1.1; omega) (hall c0 h0).1
  have f2 : boundHigh t p.lo p.hi q.lo q.hi = ce hi.n hi.d := by
    refine maxL_eq ?_ fun b hb' => ?_
    · obtain ⟨a1, a2, a3, a4⟩ := at_ c' hc'
      rw [e2, a2]; exact Least.at_ (f := highAt t) a3 a4
    · obtain ⟨z, hz, rfl⟩ := List.mem_map.1 hb'
      obtain ⟨c0, h0, rfl⟩ := back z hz
      obtain ⟨a1, a2, a3, a4⟩ := at_ c0 h0
      dsimp only
      rw [← a2]
      exact ce_cross (by have := (hb c0).1.1; omega) (by rw [e2]; omega) (hall c0 h0).2
  unfold bnd
  rw [f1, f2]
theorem cb_ok {t : Tab} {p q : Span} (h : (if tabOk t then (if p.ok && q.ok then (if liesT t p q then 0 else 1) else 10) else 11 : Int) = 0) : tabOk t = true ∧ p.ok = true ∧ q.ok = true ∧ liesT t p q = true := by
  cases h1 : tabOk t <;> cases h2 : p.ok <;> cases h3 : q.ok <;> cases h4 : liesT t p q <;> simp [h1, h2, h3, h4] at h ⊢


set_option maxHeartbeats 2000000 in
set_option maxRecDepth 100000 in
theorem spans_Bound  (Vt : TV) (t : Tab) (p : Span) (q : Span) {w : World} {Ft : Nat → Prop} (ht : TabR Ft w Vt t)  : Ret Tryz.prog 41 [.agg (tabC Vt t).toArray, .agg (spanC p).toArray, .agg (spanC q).toArray] w (fun v _ => v = .tuple #[.agg (spanC (if (if tabOk t then (if p.ok && q.ok then (if liesT t p q then 0 else 1) else 10) else 11) = (0 : Int) then bnd t p q else ⟨0, 0⟩)).toArray, .int .i64 (if tabOk t then (if p.ok && q.ok then (if liesT t p q then 0 else 1) else 10) else 11)]) := by
 refine ret_start (n := 37) Tryz.func41 rfl rfl rfl (fun a hS => ?_)
 have Ht : ∀ W, Below w.heap.size w W → TabR Ft W Vt t := fun W hb => ht.move (keep_of hb)
 have hmtx := ht.1.len
 have hmty := ht.2.1.len
 have hmtv := ht.2.2.len
 refine wpIn_seq ?_
 refine wpIn_region_lit ?_
 refine st_box_agg hS rfl rfl rfl fun W a b0 hS => st_box_agg hS rfl rfl rfl fun W a b1 hS => st_box_agg hS rfl rfl rfl fun W a b2 hS => st_alloc_agg Tryz.zeroValue31 hS rfl rfl fun W a b3 hS => st_v hS rfl rfl (run_assign hS rfl) fun a hS => wl_nil ?_
 refine wpIn_seq ?_
 refine wpIn_seq ?_
 refine wpIn_region_lit ?_
 refine st_v hS rfl rfl (run_load_all (i := 3) Tryz.isAgg25 Tryz.sizeOf25 hS rfl rfl rfl) fun a hS => st_v hS rfl rfl (run_load_all (i := 2) Tryz.isAgg31 Tryz.sizeOf31 hS rfl rfl rfl) fun a hS => st_v hS rfl rfl (run_load_all (i := 1) Tryz.isAgg31 Tryz.sizeOf31 hS rfl rfl rfl) fun a hS => st_call (spans_checkPoints Vt t p q (Ht _ hS.below)) Tryz.call116 hS rfl rfl rfl fun v W a hR hB hlt hS => ?_
 subst hR
 refine st_v hS rfl rfl (run_assign hS rfl) fun a hS => wl_nil ?_
 refine wpIn_seq ?_
 refine wpIn_region_lit ?_
 refine st_v hS rfl rfl (run_move hS rfl) fun a hS => st_v hS rfl rfl (run_bin hS rfl rfl rfl) fun a hS => wl_nil ?_
 refine st_cond hS rfl (fun hc1 => ?_) (fun hc1 => ?_)
 ·
  try simp only [ty] at hc1
  refine wpIn_seq ?_
  refine wpIn_region_lit ?_
  refine st_v hS rfl rfl (run_build (pv := []) (fun W => bd31_ W) hS rfl) fun a hS => st_v hS rfl rfl (run_move hS rfl) fun a hS => st_store (i := 0) Tryz.sizeOf31 hS rfl rfl rfl rfl rfl rfl rfl rfl rfl fun W a hS => st_v hS rfl rfl (run_assign hS rfl) fun a hS => wl_nil ?_
  refine wpIn_ret ?_
  repeat (first | refine q_ret ?_ | refine q_block_ret ?_)
  refine hS.done (res2 (fn := Tryz.f41) (r1 := .cell 6 31) (r2 := .tmp 7) rfl (rv_agg (i := 0) Tryz.isAgg31 Tryz.sizeOf31 hS rfl rfl rfl) (rv_tmp hS rfl)) ?_
  rw [if_neg hc1]; rfl
 ·
  try simp only [ty] at hc1
  obtain ⟨hok, hpok, hqok, hlies⟩ := cb_ok hc1
  refine wpIn_skip ?_
  refine wpIn_seq ?_
  refine wpIn_region_lit ?_
  refine st_v hS rfl rfl (run_load_all (i := 3) Tryz.isAgg25 Tryz.sizeOf25 hS rfl rfl rfl) fun a hS => st_v hS rfl rfl (run_load_all (i := 2) Tryz.isAgg31 Tryz.sizeOf31 hS rfl rfl rfl) fun a hS => st_v hS rfl rfl (run_load_all (i := 1) Tryz.isAgg31 Tryz.sizeOf31 hS rfl rfl rfl) fun a hS => st_call (spans_extremes Vt t p q (Ht _ hS.below) hok hpok hqok hlies) Tryz.call117 hS rfl rfl rfl fun v W a hR hB hlt hS => ?_
  obtain ⟨lo, hi, rfl, hE⟩ := hR
  have hbd := p4_bd hok hpok hqok hlies
  have hEb := hE.bd rfl hbd
  refine st_v hS rfl rfl (run_move hS rfl) fun a hS => st_v hS rfl rfl (run_extract hS rfl rfl) fun a hS => st_v hS rfl rfl (run_extract hS rfl rfl) fun a hS => st_alloc_agg Tryz.zeroValue162 hS rfl rfl fun W a b4 hS => st_alloc_agg Tryz.zeroValue162 hS rfl rfl fun W a b5 hS => st_store (i := 1) Tryz.sizeOf162 hS rfl rfl rfl rfl rfl rfl rfl rfl rfl fun W a hS => st_store (i := 0) Tryz.sizeOf162 hS rfl rfl rfl rfl rfl rfl rfl rfl rfl fun W a hS => wl_nil ?_
  refine wpIn_seq ?_
  have hlt0 := fun B hB => hS.lt (b := B) hB
  refine st_mix (k := 11) (by kernel_rfl) (by kernel_rfl) hS rfl rfl ?_
  refine mx_v (fun a W hS hB => run_fieldAddr fa162_2 hS rfl) <| mx_v (fun a W hS hB => run_fieldAddr fa160_0 hS rfl) <| mx_v (fun a W hS hB => run_load_one (i := 1) Tryz.isAgg3 hS rfl rfl rfl) <| mx_v (fun a W hS hB => run_fieldAddr fa162_2 hS rfl) <| mx_v (fun a W hS hB => run_fieldAddr fa160_1 hS rfl) <| mx_v (fun a W hS hB => run_load_one (i := 1) Tryz.isAgg3 hS rfl rfl rfl) <| mx_call Tryz.call118 rfl (fun a W hS hB => spans_floor (by omega) (by omega) (by omega)) <| mx_v (fun a W hS hB => run_fieldAddr fa162_2 hS rfl) <| mx_v (fun a W hS hB => run_load_agg (i := 0) (vs := [_, _]) Tryz.isAgg160 Tryz.sizeOf160 hS rfl rfl rfl ⟨rfl, rfl, trivial⟩) <| mx_call Tryz.call119 rfl (fun a W hS hB => spans_up (⟨hi.n, hi.d⟩ : Span) (by dsimp only; omega) (by dsimp only; omega)) <| mx_v (fun a W hS hB => run_build (pv := [(0, .int .i64 _), (1, .int .i64 _)]) (fun W => bd31_0_1 _ _ W) hS rfl) <| ?_
  refine mx_end fun a W bs us hS hB hL => ?_
  dsimp only [kall, ball, List.cons_append, List.nil_append] at hS
  refine st_store (i := 2) Tryz.sizeOf31 hS rfl rfl rfl rfl rfl rfl rfl rfl rfl fun W a hS => st_v hS rfl rfl (run_assign hS rfl) fun a hS => wl_nil ?_
  refine wpIn_ret ?_
  repeat (first | refine q_ret ?_ | refine q_block_ret ?_)
  refine hS.done (res2 (fn := Tryz.f41) (r1 := .cell 6 31) (r2 := .tmp 7) rfl (rv_agg (i := 2) Tryz.isAgg31 Tryz.sizeOf31 hS rfl rfl rfl) (rv_tmp hS rfl)) ?_
  rw [if_pos hc1, hc1, ext_bnd hbd hE]; rfl


theorem mul_bd {a b A B : Int} (ha : -A ≤ a ∧ a ≤ A) (hb : 0 ≤ b ∧ b ≤ B) : -(A * B) ≤ a * b ∧ a * b ≤ A * B := mb ha ⟨by omega, hb.2⟩


set_option maxHeartbeats 2000000 in
set_option maxRecDepth 100000 in
theorem spans_Part  (p : Span) {n : Int} {d : Int} {w : World}   : Ret Tryz.prog 168 [.agg (spanC p).toArray, .int .i64 n, .int .i64 d] w (fun v _ => v = .tuple #[.agg (spanC (if partE p n d = 0 then partOf p n d else ⟨0, 0⟩)).toArray, .int .i64 (partE p n d)]) := by
 refine ret_start (n := 40) Tryz.func168 rfl rfl rfl (fun a hS => ?_)
 refine wpIn_seq ?_
 refine wpIn_region_lit ?_
 refine st_box_agg hS rfl rfl rfl fun W a b0 hS => st_alloc_agg Tryz.zeroValue31 hS rfl rfl fun W a b1 hS => st_v hS rfl rfl (run_assign hS rfl) fun a hS => wl_nil ?_
 refine wpIn_seq ?_
 refine wpIn_seq ?_
 refine wpIn_region_lit ?_
 refine st_v hS rfl rfl (run_load_all (i := 1) Tryz.isAgg31 Tryz.sizeOf31 hS rfl rfl rfl) fun a hS => st_buildSlice (pv := [(0, .agg #[.int .i64 _, .int .i64 _])]) (fun W => bs61_1_0 _ _ W) hS rfl rfl rfl fun W a b2 hS => st_call (spans_spanned (⟨some ⟨b2, 0, none⟩, 1⟩ : SV) [p] (own_sl_of (dk := kSpan) (enc := spanC) (xs := [p]) (fun _ _ _ => rfl) hS (i := 0) rfl (Nat.le_of_ble_eq_true rfl))) Tryz.call187 hS rfl rfl rfl fun v W a hR hB hlt hS => ?_
 subst hR
 refine st_v hS rfl rfl (run_assign hS rfl) fun a hS => wl_nil ?_
 refine wpIn_seq ?_
 refine wpIn_region_lit ?_
 refine st_v hS rfl rfl (run_move hS rfl) fun a hS => st_v hS rfl rfl (run_bin hS rfl rfl rfl) fun a hS => wl_nil ?_
 refine st_cond hS rfl (fun hc1 => ?_) (fun hc1 => ?_)
 ·
  try simp only [ty] at hc1
  refine wpIn_seq ?_
  refine wpIn_region_lit ?_
  refine st_v hS rfl rfl (run_build (pv := []) (fun W => bd31_ W) hS rfl) fun a hS => st_v hS rfl rfl (run_move hS rfl) fun a hS => st_store (i := 1) Tryz.sizeOf31 hS rfl rfl rfl rfl rfl rfl rfl rfl rfl fun W a hS => st_v hS rfl rfl (run_assign hS rfl) fun a hS => wl_nil ?_
  refine wpIn_ret ?_
  repeat (first | refine q_ret ?_ | refine q_block_ret ?_)
  refine hS.done (res2 (fn := Tryz.f168) (r1 := .cell 6 31) (r2 := .tmp 7) rfl (rv_agg (i := 1) Tryz.isAgg31 Tryz.sizeOf31 hS rfl rfl rfl) (rv_tmp hS rfl)) ?_
  have h : p.ok = false := by simpa using hc1
  exact t2s (p := ⟨0, 0⟩) (by simp [partE, h]) (by simp [partE, h])
 ·
  try simp only [ty] at hc1
  have hpok : p.ok = true := by
    cases h : p.ok <;> simp [h] at hc1 ⊢
  have hp1 := (Span.ok_iff p).1 hpok
  refine wpIn_skip ?_
  refine wpIn_seq ?_
  refine wpIn_seq ?_
  refine wpIn_region_lit ?_
  refine st_v hS rfl rfl (run_move hS rfl) fun a hS => st_call (spans_within) Tryz.call209 hS rfl rfl rfl fun v W a hR hB hlt hS => ?_
  subst hR
  refine st_v hS rfl rfl (run_not hS rfl) fun a hS => st_v hS rfl rfl (run_move hS rfl) fun a hS => ?_
  refine st_split (d := 19) hS rfl (fun hc2 hS => ?_) (fun hc2 hS => ?_)
  ·
   try simp only [ty] at hc2
   refine st_skip hS (hS.unwanted rfl rfl rfl rfl) rfl fun a hS => st_skip hS (hS.unwanted rfl rfl rfl rfl) rfl fun a hS => st_skip hS (hS.unwanted rfl rfl rfl rfl) rfl fun a hS => st_v hS rfl rfl (run_pick_t hS rfl rfl) fun a hS => wl_nil ?_
   refine st_cond_t hS rfl ?_
   refine wpIn_seq ?_
   refine wpIn_region_lit ?_
   refine st_v hS rfl rfl (run_build (pv := []) (fun W => bd31_ W) hS rfl) fun a hS => st_store (i := 1) Tryz.sizeOf31 hS rfl rfl rfl rfl rfl rfl rfl rfl rfl fun W a hS => st_v hS rfl rfl (run_assign hS rfl) fun a hS => wl_nil ?_
   refine wpIn_ret ?_
   repeat (first | refine q_ret ?_ | refine q_block_ret ?_)
   refine hS.done (res2 (fn := Tryz.f168) (r1 := .cell 6 31) (r2 := .tmp 7) rfl (rv_agg (i := 1) Tryz.isAgg31 Tryz.sizeOf31 hS rfl rfl rfl) (rv_tmp hS rfl)) ?_
   have hw : (within n 0 1000 && within d 1 1000) = false := by simp_all
   exact t2s (p := ⟨0, 0⟩) (by simp [partE, hpok, hw]) (by simp [partE, hpok, hw])
  ·
   try simp only [ty] at hc2
   
   refine st_v hS (hS.wanted rfl rfl rfl) rfl (run_move hS rfl) fun a hS => st_call (spans_within) Tryz.call209 hS (hS.wanted rfl rfl rfl) rfl rfl fun v W a hR hB hlt hS => ?_
   subst hR
   refine st_v hS (hS.wanted rfl rfl rfl) rfl (run_not hS rfl) fun a hS => st_v hS rfl rfl (run_pick_f hS rfl rfl) fun a hS => wl_nil ?_
   refine st_cond hS rfl (fun hc3 => ?_) (fun hc3 => ?_)
   ·
    try simp only [ty] at hc3
    refine wpIn_seq ?_
    refine wpIn_region_lit ?_
    refine st_v hS rfl rfl (run_build (pv := []) (fun W => bd31_ W) hS rfl) fun a hS => st_store (i := 1) Tryz.sizeOf31 hS rfl rfl rfl rfl rfl rfl rfl rfl rfl fun W a hS => st_v hS rfl rfl (run_assign hS rfl) fun a hS => wl_nil ?_
    refine wpIn_ret ?_
    repeat (first | refine q_ret ?_ | refine q_block_ret ?_)
    refine hS.done (res2 (fn := Tryz.f168) (r1 := .cell 6 31) (r2 := .tmp 7) rfl (rv_agg (i := 1) Tryz.isAgg31 Tryz.sizeOf31 hS rfl rfl rfl) (rv_tmp hS rfl)) ?_
    have hw : (within n 0 1000 && within d 1 1000) = false := by simp_all
    exact t2s (p := ⟨0, 0⟩) (by simp [partE, hpok, hw]) (by simp [partE, hpok, hw])
   ·
    try simp only [ty] at hc3
    have hn : (0 ≤ n ∧ n ≤ 1000) ∧ (1 ≤ d ∧ d ≤ 1000) := by
      simp only [within, Bool.and_eq_true, decide_eq_true_eq] at *; omega
    have hw : (within n 0 1000 && within d 1 1000) = true := by simp [hc1, hc2, hc3]
    have p1 := mul_bd (a := p.lo) (b := n) (A := 1000000) (B := 1000) (by omega) (by omega); have p2 := mul_bd (a := p.hi) (b := n) (A := 1000000) (B := 1000) (by omega) (by omega)
    refine wpIn_skip ?_
    refine wpIn_seq ?_
    have hlt0 := fun B hB => hS.lt (b := B) hB
    refine st_mix (k := 15) (by kernel_rfl) (by kernel_rfl) hS rfl rfl ?_
    refine mx_v (fun a W hS hB => run_fieldAddr fa31_0 hS rfl) <| mx_v (fun a W hS hB => run_load_one (i := 2) Tryz.isAgg3 hS rfl rfl rfl) <| mx_v (fun a W hS hB => run_move hS rfl) <| mx_v (fun a W hS hB => run_mul (t := p.lo * n) hS rfl rfl (rfl) (by omega)) <| mx_v (fun a W hS hB => run_move hS rfl) <| mx_call Tryz.call118 rfl (fun a W hS hB => spans_floor (by omega) (by omega) (by omega)) <| mx_v (fun a W hS hB => run_fieldAddr fa31_1 hS rfl) <| mx_v (fun a W hS hB => run_load_one (i := 2) Tryz.isAgg3 hS rfl rfl rfl) <| mx_v (fun a W hS hB => run_move hS rfl) <| mx_v (fun a W hS hB => run_mul (t := p.hi * n) hS rfl rfl (rfl) (by omega)) <| mx_v (fun a W hS hB => run_move hS rfl) <| mx_call Tryz.call191 rfl (fun a W hS hB => spans_ceil (by omega) (by omega) (by omega)) <| mx_call Tryz.call213 rfl (fun a W hS hB => spans_made) <| mx_v (fun a W hS hB => run_extract hS rfl rfl) <| mx_v (fun a W hS hB => run_extract hS rfl rfl) <| ?_
    refine mx_end fun a W bs us hS hB hL => ?_
    dsimp only [kall, ball, List.cons_append, List.nil_append] at hS
    refine st_store (i := 1) Tryz.sizeOf31 hS rfl rfl rfl rfl rfl rfl rfl rfl rfl fun W a hS => st_v hS rfl rfl (run_assign hS rfl) fun a hS => wl_nil ?_
    have hS := hS.sub (κ' := [(0, _), (1, _), (2, _), (3, _), (6, _), (7, _), (8, _)]) (Sub.cons rfl (Sub.cons rfl (Sub.cons rfl (Sub.cons rfl (Sub.cons rfl (Sub.cons rfl (Sub.cons rfl Sub.nil)))))))
    refine wpIn_ret ?_
    repeat (first | refine q_ret ?_ | refine q_block_ret ?_)
    refine hS.done (res2 (fn := Tryz.f168) (r1 := .cell 6 31) (r2 := .tmp 7) rfl (rv_agg (i := 1) Tryz.isAgg31 Tryz.sizeOf31 hS rfl rfl rfl) (rv_tmp hS rfl)) ?_
    exact t2s (p := (if (partOf p n d).ok then partOf p n d else ⟨0, 0⟩)) (e := if (partOf p n d).ok then 0 else 2) (by simp only [partE, hpok, hw, if_true]; cases (partOf p n d).ok <;> simp) (by simp only [partE, hpok, hw, if_true])

end Go.Proofs.YtdnodlgebpnfoaaGreat
