/- The program's and the specification's checks of rotors, walked. -/
import Derived.Test.YtdnodlgebpnfoaaGreatBound
import Derived.Test.YtdnodlgebpnfoaaGreatKinds
namespace Go.Proofs.YtdnodlgebpnfoaaGreat
open Go Go.RowKit Go.Shelf Sw
set_option linter.unusedVariables false
set_option linter.unusedSimpArgs false

set_option maxHeartbeats 2000000 in
set_option maxRecDepth 100000 in
theorem rotor_lim1 {x : LimV} {n : Int} (pc1 : Addr) {w : World} (hc1 : CellsAt w pc1 (limC x))  : Ret Tryz.prog 241 [.int .i64 n, .pointer (some pc1)] w (fun v _ => v = .bool (!(within n x.lo x.hi))) := by
 refine ret_start (n := 11) Tryz.func241 rfl rfl rfl (fun a hS => ?_)
 have Hc1 : ∀ W, Below w.heap.size w W → CellsAt W pc1 (limC x) := fun W hb => hc1.at_ hb
 refine wpIn_seq ?_
 refine wpIn_region_lit ?_
 refine st_v hS rfl rfl (run_assign hS rfl) fun a hS => wl_nil ?_
 refine wpIn_seq ?_
 refine wpIn_region_lit ?_
 refine st_v hS rfl rfl (run_move hS rfl) fun a hS => st_v hS rfl rfl (run_fieldAddrE fe223_1 hS rfl) fun a hS => st_v hS rfl rfl (run_load_cell Tryz.isAgg3 hS rfl (Hc1 _ hS.below 3 _ rfl)) fun a hS => st_v hS rfl rfl (run_fieldAddrE fe223_2 hS rfl) fun a hS => st_v hS rfl rfl (run_load_cell Tryz.isAgg3 hS rfl (Hc1 _ hS.below 4 _ rfl)) fun a hS => st_call (rotor_within) Tryz.call81 hS rfl rfl rfl fun v W a hR hB hlt hS => ?_
 subst hR
 refine st_v hS rfl rfl (run_not hS rfl) fun a hS => st_v hS rfl rfl (run_assign hS rfl) fun a hS => wl_nil ?_
 refine wpIn_ret ?_
 repeat (first | refine q_ret ?_ | refine q_block_ret ?_)
 refine hS.done (res1 (fn := Tryz.f241) (r1 := .tmp 3) rfl (rv_tmp hS rfl)) ?_
 rfl


set_option maxHeartbeats 2000000 in
set_option maxRecDepth 100000 in
theorem rotor_lim2 {x : LimV} {p1 : Addr} (srow : SV) (row : List Int) (pc1 : Addr) {w : World} {Frow : Nat → Prop} (hrow : Sl kInt Frow w srow row) (hc1 : w.cell? pc1 = some (.func (.func 241) #[] #[.pointer (some p1)])) (hp1 : CellsAt w p1 (limC x)) : Ret Tryz.prog 242 [.slice srow.a row.length srow.c, .pointer (some pc1)] w (fun v _ => v = .bool (row.any fun n => !(within n x.lo x.hi))) := by
 refine ret_start (n := 7) Tryz.func242 rfl rfl rfl (fun a hS => ?_)
 have Hrow : ∀ W, Below w.heap.size w W → Sl kInt Frow W srow row := fun W hb => hrow.at_ hb
 have hmrow := hrow.len
 have Hc1 : ∀ W, Below w.heap.size w W → W.cell? pc1 = some (.func (.func 241) #[] #[.pointer (some p1)]) := fun W hb => cell_at hc1 hb
 refine wpIn_seq ?_
 refine wpIn_region_lit ?_
 refine st_v hS rfl rfl (run_assign hS rfl) fun a hS => wl_nil ?_
 refine wpIn_seq ?_
 refine wpIn_region_lit ?_
 refine st_v hS rfl rfl (run_move hS rfl) fun a hS => st_v hS rfl rfl (run_load_cell Tryz.isAgg187 hS rfl (Hc1 _ hS.below)) fun a hS => st_call (has_int srow row 241 [.pointer (some p1)] (fun n => !(within n x.lo x.hi)) (Hrow _ hS.below) Tryz.call241 (fun W' hb n hn => rotor_lim1 _ (hp1.at_ (hS.below.trans (hb.mono hS.below.size))))) Tryz.call227 hS rfl rfl rfl fun v W a hR hB hlt hS => ?_
 subst hR
 refine st_v hS rfl rfl (run_assign hS rfl) fun a hS => wl_nil ?_
 refine wpIn_ret ?_
 repeat (first | refine q_ret ?_ | refine q_block_ret ?_)
 refine hS.done (res1 (fn := Tryz.f242) (r1 := .tmp 3) rfl (rv_tmp hS rfl)) ?_
 rfl


set_option maxHeartbeats 2000000 in
set_option maxRecDepth 100000 in
theorem rotor_right  (x : LimV) {w : World} {Fx : Nat → Prop} (hx : TabR Fx w x.V x.t)  : Ret Tryz.prog 205 [.agg (limC x).toArray] w (fun v _ => v = .bool (filled x.t x.lo x.hi)) := by
 refine ret_start (n := 17) Tryz.func205 rfl rfl rfl (fun a hS => ?_)
 have Hx : ∀ W, Below w.heap.size w W → TabR Fx W x.V x.t := fun W hb => hx.move (keep_of hb)
 have hmxx := hx.1.len
 have hmxy := hx.2.1.len
 have hmxv := hx.2.2.len
 refine wpIn_seq ?_
 refine wpIn_region_lit ?_
 refine st_box_agg hS rfl rfl rfl fun W a b0 hS => st_v hS rfl rfl (run_assign hS rfl) fun a hS => wl_nil ?_
 refine wpIn_seq ?_
 refine wpIn_region_lit ?_
 refine st_v hS rfl rfl (run_makeFunc hS rfl rfl) fun a hS => st_alloc_one Tryz.zeroValue187 rfl hS rfl rfl fun W a b1 hS => st_store (i := 0) Tryz.sizeOf187 hS rfl rfl rfl rfl rfl rfl rfl rfl rfl fun W a hS => wl_nil ?_
 refine wpIn_seq ?_
 refine wpIn_region_lit ?_
 refine st_v hS rfl rfl (run_fieldAddr fa223_0 hS rfl) fun a hS => st_v hS rfl rfl (run_load_agg (i := 1) (vs := [_, _, _]) Tryz.isAgg25 Tryz.sizeOf25 hS rfl rfl rfl ⟨rfl, rfl, rfl, trivial⟩) fun a hS => st_call (spans_CheckTable x.V x.t (Hx _ hS.below)) Tryz.call186 hS rfl rfl rfl fun v W a hR hB hlt hS => ?_
 subst hR
 refine st_v hS rfl rfl (run_bin hS rfl rfl rfl) fun a hS => st_v hS rfl rfl (run_move hS rfl) fun a hS => ?_
 refine st_split (d := 9) hS rfl (fun hc1 hS => ?_) (fun hc1 hS => ?_)
 ·
  try simp only [ty] at hc1
  refine st_v hS (hS.wanted rfl rfl rfl) rfl (run_fieldAddr fa223_0 hS rfl) fun a hS => st_v hS (hS.wanted rfl rfl rfl) rfl (run_fieldAddr fa25_2 hS rfl) fun a hS => st_v hS (hS.wanted rfl rfl rfl) rfl (run_load_one (i := 1) Tryz.isAgg23 hS rfl rfl rfl) fun a hS => st_v hS (hS.wanted rfl rfl rfl) rfl (run_makeFunc hS rfl rfl) fun a hS => st_call (has_row x.V.v x.t.V 242 [.pointer (some ⟨b1, 0, none⟩)] (fun row => row.any fun n => !(within n x.lo x.hi)) (Hx _ hS.below).2.2 Tryz.call242 (fun W' hb s' row hm hrow => rotor_lim2 s' row _ hrow (hS.cell0 (i := 0) rfl _ hb) (hS.cells (i := 1) rfl _ hb))) Tryz.call229 hS (hS.wanted rfl rfl rfl) rfl rfl fun v W a hR hB hlt hS => ?_
  subst hR
  refine st_v hS (hS.wanted rfl rfl rfl) rfl (run_not hS rfl) fun a hS => st_v hS rfl rfl (run_pick_t hS rfl rfl) fun a hS => st_v hS rfl rfl (run_assign hS rfl) fun a hS => wl_nil ?_
  refine wpIn_ret ?_
  repeat (first | refine q_ret ?_ | refine q_block_ret ?_)
  refine hS.done (res1 (fn := Tryz.f205) (r1 := .tmp 2) rfl (rv_tmp hS rfl)) ?_
  have h : tabOk x.t = true := by simpa using hc1
  refine vb ?_; simp [filled, inAll, h]
 ·
  try simp only [ty] at hc1
  refine st_skip hS (hS.unwanted rfl rfl rfl rfl) rfl fun a hS => st_skip hS (hS.unwanted rfl rfl rfl rfl) rfl fun a hS => st_skip hS (hS.unwanted rfl rfl rfl rfl) rfl fun a hS => st_skip hS (hS.unwanted rfl rfl rfl rfl) rfl fun a hS => st_skip hS (hS.unwanted rfl rfl rfl rfl) rfl fun a hS => st_skip hS (hS.unwanted rfl rfl rfl rfl) rfl fun a hS => st_v hS rfl rfl (run_pick_f hS rfl rfl) fun a hS => st_v hS rfl rfl (run_assign hS rfl) fun a hS => wl_nil ?_
  refine wpIn_ret ?_
  repeat (first | refine q_ret ?_ | refine q_block_ret ?_)
  refine hS.done (res1 (fn := Tryz.f205) (r1 := .tmp 2) rfl (rv_tmp hS rfl)) ?_
  have h : tabOk x.t = false := by simpa using hc1
  refine vb ?_; simp [filled, h]


theorem ix_ext {l m : List Int} (h : l.length = m.length) (hj : ∀ j, j < l.length → ix l j = ix m j) : l = m := by
  refine List.ext_getElem h fun j h1 h2 => ?_
  have := hj j h1
  simpa [ix, List.getD_eq_getElem?_getD, h1, h2] using this
theorem rotOk_eq (r : Rot) : rotOk r = (limsOk r && (decide (r.low.X = r.high.X) && decide (r.low.Y = r.high.Y) && within r.climb 1 1000 && within r.burn 1 1000 && notAbove r.low r.high)) := rfl
theorem lims_bad {V : RV} {r : Rot} {x : Nat} (h : x < 8) (hb : filled (limAt (lims V r) x).t (limAt (lims V r) x).lo (limAt (lims V r) x).hi = false) : rotOk r = false := by
  rw [rotOk_eq, ← lims_all V r, all_bad (l := lims V r) (p := fun x => filled x.t x.lo x.hi) (i := x) h hb, Bool.false_and]
theorem lims_good {V : RV} {r : Rot} (hb : ∀ x, x < 8 → filled (limAt (lims V r) x).t (limAt (lims V r) x).lo (limAt (lims V r) x).hi = true) : limsOk r = true := by
  rw [← lims_all V r]; exact all_good (l := lims V r) (p := fun x => filled x.t x.lo x.hi) fun i hi => hb i hi
theorem above_bad {s t : Tab} {i k : Nat} (hi : i < s.X.length) (hk : k < s.Y.length) (h : vat s i k > vat t i k) : notAbove s t = false := by
  unfold notAbove
  rw [List.all_eq_false]
  refine ⟨i, by simpa using hi, ?_⟩
  rw [Bool.not_eq_true, List.all_eq_false]
  exact ⟨k, by simpa using hk, by simp; omega⟩
theorem above_good {s t : Tab} (h : ∀ i k, i < s.X.length → k < s.Y.length → vat s i k ≤ vat t i k) : notAbove s t = true := by
  unfold notAbove
  simp only [List.all_eq_true, List.mem_range, decide_eq_true_eq]
  intro i hi k hk; exact h i k hi hk
theorem lims_low {r : Rot} (h : limsOk r = true) : tabOk r.low = true ∧ tabOk r.high = true := by
  simp only [limsOk, filled, Bool.and_eq_true] at h
  exact ⟨h.1.1.2.1, h.1.2.1⟩


set_option maxHeartbeats 2000000 in
set_option maxRecDepth 100000 in
theorem slices_Equal  (sl : SV) (l : List Int) (sm : SV) (m : List Int) {w : World} {Fl : Nat → Prop} (hl : Sl kInt Fl w sl l) {Fm : Nat → Prop} (hm : Sl kInt Fm w sm m)  : Ret Tryz.prog 206 [.slice sl.a l.length sl.c, .slice sm.a m.length sm.c] w (fun v _ => v = .bool (decide (l = m))) := by
 refine ret_start (n := 26) Tryz.func206 rfl rfl rfl (fun a hS => ?_)
 have Hl : ∀ W, Below w.heap.size w W → Sl kInt Fl W sl l := fun W hb => hl.at_ hb
 have hml := hl.len
 have Hm : ∀ W, Below w.heap.size w W → Sl kInt Fm W sm m := fun W hb => hm.at_ hb
 have hmm := hm.len
 refine wpIn_seq ?_
 refine wpIn_region_lit ?_
 refine st_v hS rfl rfl (run_assign hS rfl) fun a hS => wl_nil ?_
 refine wpIn_seq ?_
 refine wpIn_seq ?_
 refine wpIn_region_lit ?_
 refine st_v hS rfl rfl (run_move hS rfl) fun a hS => st_v hS rfl rfl (run_len_slice Tryz.underlying22 hS rfl) fun a hS => st_v hS rfl rfl (run_move hS rfl) fun a hS => st_v hS rfl rfl (run_len_slice Tryz.underlying22 hS rfl) fun a hS => st_v hS rfl rfl (run_bin hS rfl rfl rfl) fun a hS => wl_nil ?_
 refine st_cond hS rfl (fun hc1 => ?_) (fun hc1 => ?_)
 ·
  try simp only [ty] at hc1
  refine wpIn_seq ?_
  refine wpIn_region_lit ?_
  refine st_v hS rfl rfl (run_assign hS rfl) fun a hS => wl_nil ?_
  refine wpIn_ret ?_
  repeat (first | refine q_ret ?_ | refine q_block_ret ?_)
  refine hS.done (res1 (fn := Tryz.f206) (r1 := .tmp 4) rfl (rv_tmp hS rfl)) ?_
  refine vb ?_; simp only [Bool.false_eq_true, decide_eq_true_eq, false_iff]; intro e; subst e; omega
 ·
  try simp only [ty] at hc1
  refine wpIn_skip ?_
  refine wpIn_seq ?_
  refine wpIn_seq ?_
  refine wpIn_region_lit ?_
  refine st_v hS rfl rfl (run_move hS rfl) fun a hS => st_v hS rfl rfl (run_len_slice Tryz.underlying22 hS rfl) fun a hS => st_v hS rfl rfl (run_move hS rfl) fun a hS => wl_nil ?_
  refine wpIn_block ?_
  refine st_loop2 (α := Nat) (fun x => [(13, .int .i64 (((x : Nat) : Int)))]) [(0, _), (1, _), (12, _)] (fun l _ => l) (fun x => x ≤ l.length ∧ ∀ j, j < x → ix l j = ix m j) (fun x => l.length - x) (0) hS (Sub.cons rfl (Sub.cons rfl (Sub.cons rfl (Sub.cons rfl Sub.nil)))) rfl (⟨Nat.zero_le _, fun j hj => absurd hj (Nat.not_lt_zero j)⟩) (fun x W a hφ hS => ?_)
  dsimp only [setB, List.cons_append, List.nil_append, List.take] at hS
  obtain ⟨hx, hg⟩ := hφ
  refine wpIn_seq ?_
  refine wpIn_region_lit ?_
  refine st_v hS rfl rfl (run_bin hS rfl rfl rfl) fun a hS => wl_nil ?_
  refine wpIn_seq ?_
  refine st_cond hS rfl (fun hc2 => ?_) (fun hc2 => ?_)
  ·
   try simp only [ty] at hc2
   refine wpIn_skip ?_
   refine wpIn_seq ?_
   refine wpIn_block ?_
   refine wpIn_seq ?_
   refine wpIn_region_lit ?_
   refine st_v hS rfl rfl (run_move hS rfl) fun a hS => st_v hS rfl rfl (run_assign hS rfl) fun a hS => wl_nil ?_
   refine wpIn_seq ?_
   refine st_draw (by kernel_rfl) (by kernel_rfl) hS ?_
   refine qt_v hS rfl rfl (fun W hB hS => run_move hS rfl) fun a hS => qt_v hS rfl rfl (fun W hB hS => run_move hS rfl) fun a hS => ?_
   obtain ⟨ad0, hA0, hL0⟩ := sl_int Hl (Below.refl _ _) (i := ((x : Nat) : Int)) (j := x) (by omega) (by omega)
   refine qt_v hS rfl rfl (fun W hB hS => run_indexAddr Tryz.underlying22 Tryz.sizeOf3 hS rfl rfl hA0 (by omega) (by omega)) fun a hS => qt_v hS rfl rfl (fun W hB hS => run_load_cell Tryz.isAgg3 hS rfl (hL0 _ hS.below)) fun a hS => qt_v hS rfl rfl (fun W hB hS => run_move hS rfl) fun a hS => qt_v hS rfl rfl (fun W hB hS => run_move hS rfl) fun a hS => ?_
   obtain ⟨ad1, hA1, hL1⟩ := sl_int Hm (Below.refl _ _) (i := ((x : Nat) : Int)) (j := x) (by omega) (by omega)
   refine qt_v hS rfl rfl (fun W hB hS => run_indexAddr Tryz.underlying22 Tryz.sizeOf3 hS rfl rfl hA1 (by omega) (by omega)) fun a hS => qt_v hS rfl rfl (fun W hB hS => run_load_cell Tryz.isAgg3 hS rfl (hL1 _ hS.below)) fun a hS => qt_v hS rfl rfl (fun W hB hS => run_bin hS rfl rfl rfl) fun a hS => qt_nil hS fun W hS => ?_
   refine st_cond hS rfl (fun hc3 => ?_) (fun hc3 => ?_)
   ·
    try simp only [ty] at hc3
    refine wpIn_seq ?_
    refine wpIn_region_lit ?_
    refine st_v hS rfl rfl (run_assign hS rfl) fun a hS => wl_nil ?_
    refine wpIn_ret ?_
    repeat (first | refine q_ret ?_ | refine q_block_ret ?_)
    refine hS.done (res1 (fn := Tryz.f206) (r1 := .tmp 4) rfl (rv_tmp hS rfl)) ?_
    refine vb ?_; simp only [Bool.false_eq_true, decide_eq_true_eq, false_iff]; intro e; subst e; simp at hc3
   ·
    try simp only [ty] at hc3
    refine wpIn_skip ?_
    refine wpIn_region_lit ?_
    refine st_v hS rfl rfl (run_add (t := ((x + 1 : Nat) : Int)) hS rfl rfl (by omega) (by omega) (by omega)) fun a hS => st_v hS rfl rfl (run_move hS rfl) fun a hS => wl_nil ?_
    refine ⟨x + 1, ⟨⟨by omega, fun j hj => ?_⟩, by omega⟩, (hS.sub (Sub.cons rfl (Sub.cons rfl (Sub.cons rfl (Sub.cons rfl Sub.nil)))))⟩
    by_cases e : j = x
    · subst e; simpa using hc3
    · exact hg j (by omega)
  ·
   try simp only [ty] at hc2
   refine wpIn_exit ?_
   refine wpIn_seq ?_
   refine wpIn_region_lit ?_
   refine st_v hS rfl rfl (run_assign hS rfl) fun a hS => wl_nil ?_
   refine wpIn_ret ?_
   repeat (first | refine q_ret ?_ | refine q_block_ret ?_)
   refine hS.done (res1 (fn := Tryz.f206) (r1 := .tmp 4) rfl (rv_tmp hS rfl)) ?_
   refine vb ?_; simp only [decide_eq_true_eq, true_iff]; exact ix_ext (by omega) (fun j hj => hg j (by omega))


set_option maxHeartbeats 4000000 in
set_option maxRecDepth 100000 in
theorem rotor_Check  (Vr : RV) (r : Rot) {w : World} {Fr : Nat → Prop} (hr : RotR Fr w Vr r)  : Ret Tryz.prog 154 [.agg (rotC Vr r).toArray] w (fun v _ => v = .int .i64 (checkRot r)) := by
 refine ret_start (n := 102) Tryz.func154 rfl rfl rfl (fun a hS => ?_)
 have Hr : ∀ W, Below w.heap.size w W → RotR Fr W Vr r := fun W hb => hr.move (keep_of hb)
 refine wpIn_seq ?_
 refine wpIn_region_lit ?_
 refine st_box_agg hS rfl rfl rfl fun W a b0 hS => st_v hS rfl rfl (run_assign hS rfl) fun a hS => wl_nil ?_
 refine wpIn_seq ?_
 refine wpIn_seq ?_
 refine wpIn_region_lit ?_
 refine st_v hS rfl rfl (run_fieldAddr fa27_0 hS rfl) fun a hS => st_v hS rfl rfl (run_load_agg (i := 0) (vs := [_, _, _]) Tryz.isAgg25 Tryz.sizeOf25 hS rfl rfl rfl ⟨rfl, rfl, rfl, trivial⟩) fun a hS => st_v hS rfl rfl (run_build (pv := [(0, .agg #[.slice _ _ _, .slice _ _ _, .slice _ _ _]), (1, .int .i64 _), (2, .int .i64 _)]) (fun W => bd223_0_1_2 _ _ _ _ _ _ _ _ _ _ _ W) hS rfl) fun a hS => st_v hS rfl rfl (run_fieldAddr fa27_1 hS rfl) fun a hS => st_v hS rfl rfl (run_load_agg (i := 0) (vs := [_, _, _]) Tryz.isAgg25 Tryz.sizeOf25 hS rfl rfl rfl ⟨rfl, rfl, rfl, trivial⟩) fun a hS => st_v hS rfl rfl (run_build (pv := [(0, .agg #[.slice _ _ _, .slice _ _ _, .slice _ _ _]), (1, .int .i64 _), (2, .int .i64 _)]) (fun W => bd223_0_1_2 _ _ _ _ _ _ _ _ _ _ _ W) hS rfl) fun a hS => st_v hS rfl rfl (run_fieldAddr fa27_2 hS rfl) fun a hS => st_v hS rfl rfl (run_load_agg (i := 0) (vs := [_, _, _]) Tryz.isAgg25 Tryz.sizeOf25 hS rfl rfl rfl ⟨rfl, rfl, rfl, trivial⟩) fun a hS => st_v hS rfl rfl (run_build (pv := [(0, .agg #[.slice _ _ _, .slice _ _ _, .slice _ _ _]), (1, .int .i64 _), (2, .int .i64 _)]) (fun W => bd223_0_1_2 _ _ _ _ _ _ _ _ _ _ _ W) hS rfl) fun a hS => st_v hS rfl rfl (run_fieldAddr fa27_3 hS rfl) fun a hS => st_v hS rfl rfl (run_load_agg (i := 0) (vs := [_, _, _]) Tryz.isAgg25 Tryz.sizeOf25 hS rfl rfl rfl ⟨rfl, rfl, rfl, trivial⟩) fun a hS => st_v hS rfl rfl (run_build (pv := [(0, .agg #[.slice _ _ _, .slice _ _ _, .slice _ _ _]), (1, .int .i64 _), (2, .int .i64 _)]) (fun W => bd223_0_1_2 _ _ _ _ _ _ _ _ _ _ _ W) hS rfl) fun a hS => st_v hS rfl rfl (run_fieldAddr fa27_4 hS rfl) fun a hS => st_v hS rfl rfl (run_load_agg (i := 0) (vs := [_, _, _]) Tryz.isAgg25 Tryz.sizeOf25 hS rfl rfl rfl ⟨rfl, rfl, rfl, trivial⟩) fun a hS => st_v hS rfl rfl (run_build (pv := [(0, .agg #[.slice _ _ _, .slice _ _ _, .slice _ _ _]), (1, .int .i64 _), (2, .int .i64 _)]) (fun W => bd223_0_1_2 _ _ _ _ _ _ _ _ _ _ _ W) hS rfl) fun a hS => st_v hS rfl rfl (run_fieldAddr fa27_5 hS rfl) fun a hS => st_v hS rfl rfl (run_load_agg (i := 0) (vs := [_, _, _]) Tryz.isAgg25 Tryz.sizeOf25 hS rfl rfl rfl ⟨rfl, rfl, rfl, trivial⟩) fun a hS => st_v hS rfl rfl (run_build (pv := [(0, .agg #[.slice _ _ _, .slice _ _ _, .slice _ _ _]), (1, .int .i64 _), (2, .int .i64 _)]) (fun W => bd223_0_1_2 _ _ _ _ _ _ _ _ _ _ _ W) hS rfl) fun a hS => st_v hS rfl rfl (run_fieldAddr fa27_6 hS rfl) fun a hS => st_v hS rfl rfl (run_load_agg (i := 0) (vs := [_, _, _]) Tryz.isAgg25 Tryz.sizeOf25 hS rfl rfl rfl ⟨rfl, rfl, rfl, trivial⟩) fun a hS => st_v hS rfl rfl (run_build (pv := [(0, .agg #[.slice _ _ _, .slice _ _ _, .slice _ _ _]), (1, .int .i64 _), (2, .int .i64 _)]) (fun W => bd223_0_1_2 _ _ _ _ _ _ _ _ _ _ _ W) hS rfl) fun a hS => st_v hS rfl rfl (run_fieldAddr fa27_7 hS rfl) fun a hS => st_v hS rfl rfl (run_load_agg (i := 0) (vs := [_, _, _]) Tryz.isAgg25 Tryz.sizeOf25 hS rfl rfl rfl ⟨rfl, rfl, rfl, trivial⟩) fun a hS => st_v hS rfl rfl (run_build (pv := [(0, .agg #[.slice _ _ _, .slice _ _ _, .slice _ _ _]), (1, .int .i64 _), (2, .int .i64 _)]) (fun W => bd223_0_1_2 _ _ _ _ _ _ _ _ _ _ _ W) hS rfl) fun a hS => st_buildSlice (pv := [(0, .agg #[.slice _ _ _, .slice _ _ _, .slice _ _ _, .int .i64 _, .int .i64 _]), (1, .agg #[.slice _ _ _, .slice _ _ _, .slice _ _ _, .int .i64 _, .int .i64 _]), (2, .agg #[.slice _ _ _, .slice _ _ _, .slice _ _ _, .int .i64 _, .int .i64 _]), (3, .agg #[.slice _ _ _, .slice _ _ _, .slice _ _ _, .int .i64 _, .int .i64 _]), (4, .agg #[.slice _ _ _, .slice _ _ _, .slice _ _ _, .int .i64 _, .int .i64 _]), (5, .agg #[.slice _ _ _, .slice _ _ _, .slice _ _ _, .int .i64 _, .int .i64 _]), (6, .agg #[.slice _ _ _, .slice _ _ _, .slice _ _ _, .int .i64 _, .int .i64 _]), (7, .agg #[.slice _ _ _, .slice _ _ _, .slice _ _ _, .int .i64 _, .int .i64 _])]) (fun W => bs224_8_0_1_2_3_4_5_6_7 _ _ _ _ _ _ _ _ _ _ _ _ _ _ _ _ _ _ _ _ _ _ _ _ _ _ _ _ _ _ _ _ _ _ _ _ _ _ _ _ _ _ _ _ _ _ _ _ _ _ _ _ _ _ _ _ _ _ _ _ _ _ _ _ _ _ _ _ _ _ _ _ _ _ _ _ _ _ _ _ _ _ _ _ _ _ _ _ W) hS rfl rfl rfl fun W a b1 hS => ?_
 have hS := hS.freeze (enc := limC) (nn := 5) (bb := 88) (hb := by decide) (hl := fun _ => rfl) (lims Vr r) rfl (Nat.le_of_ble_eq_true rfl)
 refine st_v hS rfl rfl (run_len_slice Tryz.underlying224 hS rfl) fun a hS => st_v hS rfl rfl (run_move hS rfl) fun a hS => wl_nil ?_
 refine wpIn_block ?_
 refine st_loop2 (α := Nat) (fun x => [(37, .int .i64 (((x : Nat) : Int)))]) [(0, _), (1, _), (35, _), (36, _)] (fun l _ => l) (fun x => x ≤ 8 ∧ ∀ j, j < x → filled (limAt (lims Vr r) j).t (limAt (lims Vr r) j).lo (limAt (lims Vr r) j).hi = true) (fun x => 8 - x) (0) hS (Sub.cons rfl (Sub.cons rfl (Sub.cons rfl (Sub.cons rfl (Sub.cons rfl Sub.nil))))) rfl (⟨Nat.zero_le _, fun j hj => absurd hj (Nat.not_lt_zero j)⟩) (fun x W a hφ hS => ?_)
 dsimp only [setB, List.cons_append, List.nil_append, List.take] at hS
 obtain ⟨hx, hg⟩ := hφ
 have h8 : (lims Vr r).length = 8 := rfl
 refine wpIn_seq ?_
 refine wpIn_region_lit ?_
 refine st_v hS rfl rfl (run_bin hS rfl rfl rfl) fun a hS => wl_nil ?_
 refine wpIn_seq ?_
 refine st_cond hS rfl (fun hc1 => ?_) (fun hc1 => ?_)
 ·
  try simp only [ty] at hc1
  refine wpIn_skip ?_
  refine wpIn_seq ?_
  refine wpIn_block ?_
  refine wpIn_seq ?_
  refine wpIn_region_lit ?_
  obtain ⟨ad0, hA0, hL0⟩ := sl_of (fun _ h => h) hS.now.2 _ (i := ((x : Nat) : Int)) (j := x) (by omega) (by omega)
  refine st_v hS rfl rfl (run_indexAddr Tryz.underlying224 Tryz.sizeOf223 hS rfl rfl hA0 (by omega) (by omega)) fun a hS => st_v hS rfl rfl (run_load_ext Tryz.isAgg223 Tryz.sizeOf223 hS rfl rfl (hL0 _ hS.now.2)) fun a hS => st_alloc_agg Tryz.zeroValue223 hS rfl rfl fun W a b2 hS => st_store (cs' := [.slice ((((limAt (lims Vr r) (x))).V).x).a ((((limAt (lims Vr r) (x))).t).X).length ((((limAt (lims Vr r) (x))).V).x).c, .slice ((((limAt (lims Vr r) (x))).V).y).a ((((limAt (lims Vr r) (x))).t).Y).length ((((limAt (lims Vr r) (x))).V).y).c, .slice ((((limAt (lims Vr r) (x))).V).v).a ((((limAt (lims Vr r) (x))).t).V).length ((((limAt (lims Vr r) (x))).V).v).c, .int .i64 (((limAt (lims Vr r) (x))).lo), .int .i64 (((limAt (lims Vr r) (x))).hi)]) (i := 0) Tryz.sizeOf223 hS rfl rfl rfl rfl rfl rfl rfl rfl rfl fun W a hS => wl_nil ?_
  refine wpIn_seq ?_
  refine wpIn_region_lit ?_
  refine st_v hS rfl rfl (run_load_all (i := 0) Tryz.isAgg223 Tryz.sizeOf223 hS rfl rfl rfl) fun a hS => st_call (rotor_right (limAt (lims Vr r) (x)) ((fun W hC => (fun W hb x hx => lims_tab (Hr W hb) x hx) W hC _ (limAt_mem (by omega))) _ hS.below)) Tryz.call205 hS rfl rfl rfl fun v W a hR hB hlt hS => ?_
  subst hR
  refine st_v hS rfl rfl (run_not hS rfl) fun a hS => wl_nil ?_
  refine st_cond hS rfl (fun hc2 => ?_) (fun hc2 => ?_)
  ·
   try simp only [ty] at hc2
   refine wpIn_seq ?_
   refine wpIn_region_lit ?_
   refine st_v hS rfl rfl (run_assign hS rfl) fun a hS => wl_nil ?_
   refine wpIn_ret ?_
   repeat (first | refine q_ret ?_ | refine q_block_ret ?_)
   refine hS.done (res1 (fn := Tryz.f154) (r1 := .tmp 2) rfl (rv_tmp hS rfl)) ?_
   rw [checkRot, lims_bad (V := Vr) (x := x) (by omega) (by simpa using hc2)]; rfl
  ·
   try simp only [ty] at hc2
   refine wpIn_skip ?_
   refine wpIn_region_lit ?_
   refine st_v hS rfl rfl (run_add (t := ((x + 1 : Nat) : Int)) hS rfl rfl (by omega) (by omega) (by omega)) fun a hS => st_v hS rfl rfl (run_move hS rfl) fun a hS => wl_nil ?_
   refine ⟨x + 1, ⟨⟨by omega, fun j hj => ?_⟩, by omega⟩, (hS.sub (Sub.cons rfl (Sub.cons rfl (Sub.cons rfl (Sub.cons rfl (Sub.cons rfl Sub.nil)))))).drop (List.Sublist.cons _ (List.Sublist.refl _))⟩
   by_cases e : j = x
   · subst e; simpa using hc2
   · exact hg j (by omega)
 ·
  try simp only [ty] at hc1
  refine wpIn_exit ?_
  refine wpIn_seq ?_
  refine anyh_start (by kernel_rfl) [true] hS fun W hS => ?_
  refine anyh_take (i := 0) [true] hS (fun _ h => h) rfl rfl (by kernel_rfl) (by kernel_rfl) (by kernel_rfl) rfl rfl (fun W' hS => run_fieldAddr fa27_5 hS rfl) fun a hS => ?_
  refine anyh_take (i := 1) [true] hS (fun _ h => h) rfl rfl (by kernel_rfl) (by kernel_rfl) (by kernel_rfl) rfl rfl (fun W' hS => run_load_agg (i := 0) (vs := [_, _, _]) Tryz.isAgg25 Tryz.sizeOf25 hS rfl rfl rfl ⟨rfl, rfl, rfl, trivial⟩) fun a hS => ?_
  refine anyh_take (i := 2) [true] hS (fun _ h => h) rfl rfl (by kernel_rfl) (by kernel_rfl) (by kernel_rfl) rfl rfl (fun W' hS => run_fieldAddr fa27_6 hS rfl) fun a hS => ?_
  refine anyh_take (i := 3) [true] hS (fun _ h => h) rfl rfl (by kernel_rfl) (by kernel_rfl) (by kernel_rfl) rfl rfl (fun W' hS => run_load_agg (i := 0) (vs := [_, _, _]) Tryz.isAgg25 Tryz.sizeOf25 hS rfl rfl rfl ⟨rfl, rfl, rfl, trivial⟩) fun a hS => ?_
  refine anyh_go (rs := [4, 5]) (by kernel_rfl) (by simp) ⟨⟨_, rfl, ?_⟩, ⟨_, rfl, ?_⟩, trivial⟩
  ·
   refine st_alloc_agg Tryz.zeroValue25 hS rfl rfl fun W a b3 hS => wl_nil ?_
   refine anyh_next [false, true] hS (fun _ h => h) rfl ?_
   refine anyh_go (rs := [5]) (by kernel_rfl) (by simp) ⟨⟨_, rfl, ?_⟩, trivial⟩
   refine st_alloc_agg Tryz.zeroValue25 hS rfl rfl fun W a b4 hS => wl_nil ?_
   refine anyh_next [false, false, true] hS (fun _ h => h) rfl ?_
   refine anyh_go (rs := [6]) (by kernel_rfl) (by simp) ⟨⟨_, rfl, ?_⟩, trivial⟩
   refine st_store (i := 1) Tryz.sizeOf25 hS rfl rfl rfl rfl rfl rfl rfl rfl rfl fun W a hS => wl_nil ?_
   refine anyh_next [false, false, true] hS (fun _ h => h) rfl ?_
   refine anyh_go (rs := [7]) (by kernel_rfl) (by simp) ⟨⟨_, rfl, ?_⟩, trivial⟩
   refine st_store (i := 0) Tryz.sizeOf25 hS rfl rfl rfl rfl rfl rfl rfl rfl rfl fun W a hS => wl_nil ?_
   refine anyh_next [false, false, true] hS (fun _ h => h) rfl ?_
   refine anyh_done (by kernel_rfl) ?_ _
   refine wpIn_seq ?_
   refine wpIn_seq ?_
   refine wpIn_region_lit ?_
   refine st_v hS rfl rfl (run_fieldAddr fa25_0 hS rfl) fun a hS => st_v hS rfl rfl (run_load_one (i := 1) Tryz.isAgg22 hS rfl rfl rfl) fun a hS => st_v hS rfl rfl (run_fieldAddr fa25_0 hS rfl) fun a hS => st_v hS rfl rfl (run_load_one (i := 0) Tryz.isAgg22 hS rfl rfl rfl) fun a hS => st_call (slices_Equal Vr.low.x r.low.X Vr.high.x r.high.X ((fun W hC => ((fun W hC => (Hr W hC).low) W hC).1) _ hS.below) ((fun W hC => ((fun W hC => (Hr W hC).high) W hC).1) _ hS.below)) Tryz.call206 hS rfl rfl rfl fun v W a hR hB hlt hS => ?_
   subst hR
   refine st_v hS rfl rfl (run_not hS rfl) fun a hS => st_v hS rfl rfl (run_move hS rfl) fun a hS => ?_
   refine st_split (d := 55) hS rfl (fun hc3 hS => ?_) (fun hc3 hS => ?_)
   ·
    try simp only [ty] at hc3
    refine st_skip hS (hS.unwanted rfl rfl rfl rfl) rfl fun a hS => st_skip hS (hS.unwanted rfl rfl rfl rfl) rfl fun a hS => st_skip hS (hS.unwanted rfl rfl rfl rfl) rfl fun a hS => st_skip hS (hS.unwanted rfl rfl rfl rfl) rfl fun a hS => st_skip hS (hS.unwanted rfl rfl rfl rfl) rfl fun a hS => st_skip hS (hS.unwanted rfl rfl rfl rfl) rfl fun a hS => st_v hS rfl rfl (run_pick_t hS rfl rfl) fun a hS => st_v hS rfl rfl (run_move hS rfl) fun a hS => st_skip hS (hS.unwanted rfl rfl rfl rfl) rfl fun a hS => st_skip hS (hS.unwanted rfl rfl rfl rfl) rfl fun a hS => st_skip hS (hS.unwanted rfl rfl rfl rfl) rfl fun a hS => st_skip hS (hS.unwanted rfl rfl rfl rfl) rfl fun a hS => st_v hS rfl rfl (run_pick_t hS rfl rfl) fun a hS => st_v hS rfl rfl (run_move hS rfl) fun a hS => st_skip hS (hS.unwanted rfl rfl rfl rfl) rfl fun a hS => st_skip hS (hS.unwanted rfl rfl rfl rfl) rfl fun a hS => st_skip hS (hS.unwanted rfl rfl rfl rfl) rfl fun a hS => st_skip hS (hS.unwanted rfl rfl rfl rfl) rfl fun a hS => st_v hS rfl rfl (run_pick_t hS rfl rfl) fun a hS => wl_nil ?_
    have hS := hS.sub (κ' := [(0, _), (1, _), (35, _), (36, _), (37, _), (5, _), (6, _), (74, _)]) (Sub.cons rfl (Sub.cons rfl (Sub.cons rfl (Sub.cons rfl (Sub.cons rfl (Sub.cons rfl (Sub.cons rfl (Sub.cons rfl Sub.nil))))))))
    refine st_cond_t hS rfl ?_
    refine wpIn_seq ?_
    refine wpIn_region_lit ?_
    refine st_v hS rfl rfl (run_assign hS rfl) fun a hS => wl_nil ?_
    refine wpIn_ret ?_
    repeat (first | refine q_ret ?_ | refine q_block_ret ?_)
    refine hS.done (res1 (fn := Tryz.f154) (r1 := .tmp 2) rfl (rv_tmp hS rfl)) ?_
    have h : rotOk r = false := by rw [rotOk_eq]; simp [hc1, hc3]
    rw [checkRot, h]; rfl
   ·
    try simp only [ty] at hc3
    refine st_v hS (hS.wanted rfl rfl rfl) rfl (run_fieldAddr fa25_1 hS rfl) fun a hS => st_v hS (hS.wanted rfl rfl rfl) rfl (run_load_one (i := 1) Tryz.isAgg22 hS rfl rfl rfl) fun a hS => st_v hS (hS.wanted rfl rfl rfl) rfl (run_fieldAddr fa25_1 hS rfl) fun a hS => st_v hS (hS.wanted rfl rfl rfl) rfl (run_load_one (i := 0) Tryz.isAgg22 hS rfl rfl rfl) fun a hS => st_call (slices_Equal Vr.low.y r.low.Y Vr.high.y r.high.Y ((fun W hC => ((fun W hC => (Hr W hC).low) W hC).2.1) _ hS.below) ((fun W hC => ((fun W hC => (Hr W hC).high) W hC).2.1) _ hS.below)) Tryz.call206 hS (hS.wanted rfl rfl rfl) rfl rfl fun v W a hR hB hlt hS => ?_
    subst hR
    refine st_v hS (hS.wanted rfl rfl rfl) rfl (run_not hS rfl) fun a hS => st_v hS rfl rfl (run_pick_f hS rfl rfl) fun a hS => st_v hS rfl rfl (run_move hS rfl) fun a hS => ?_
    refine st_split (d := 63) hS rfl (fun hc4 hS => ?_) (fun hc4 hS => ?_)
    ·
     try simp only [ty] at hc4
     refine st_skip hS (hS.unwanted rfl rfl rfl rfl) rfl fun a hS => st_skip hS (hS.unwanted rfl rfl rfl rfl) rfl fun a hS => st_skip hS (hS.unwanted rfl rfl rfl rfl) rfl fun a hS => st_skip hS (hS.unwanted rfl rfl rfl rfl) rfl fun a hS => st_v hS rfl rfl (run_pick_t hS rfl rfl) fun a hS => st_v hS rfl rfl (run_move hS rfl) fun a hS => st_skip hS (hS.unwanted rfl rfl rfl rfl) rfl fun a hS => st_skip hS (hS.unwanted rfl rfl rfl rfl) rfl fun a hS => st_skip hS (hS.unwanted rfl rfl rfl rfl) rfl fun a hS => st_skip hS (hS.unwanted rfl rfl rfl rfl) rfl fun a hS => st_v hS rfl rfl (run_pick_t hS rfl rfl) fun a hS => wl_nil ?_
     have hS := hS.sub (κ' := [(0, _), (1, _), (35, _), (36, _), (37, _), (5, _), (6, _), (74, _)]) (Sub.cons rfl (Sub.cons rfl (Sub.cons rfl (Sub.cons rfl (Sub.cons rfl (Sub.cons rfl (Sub.cons rfl (Sub.cons rfl Sub.nil))))))))
     refine st_cond_t hS rfl ?_
     refine wpIn_seq ?_
     refine wpIn_region_lit ?_
     refine st_v hS rfl rfl (run_assign hS rfl) fun a hS => wl_nil ?_
     refine wpIn_ret ?_
     repeat (first | refine q_ret ?_ | refine q_block_ret ?_)
     refine hS.done (res1 (fn := Tryz.f154) (r1 := .tmp 2) rfl (rv_tmp hS rfl)) ?_
     have h : rotOk r = false := by rw [rotOk_eq]; simp [hc1, hc3, hc4]
     rw [checkRot, h]; rfl
    ·
     try simp only [ty] at hc4
     refine st_v hS (hS.wanted rfl rfl rfl) rfl (run_fieldAddr fa27_8 hS rfl) fun a hS => st_v hS (hS.wanted rfl rfl rfl) rfl (run_load_one (i := 2) Tryz.isAgg3 hS rfl rfl rfl) fun a hS => st_call (rotor_within) Tryz.call81 hS (hS.wanted rfl rfl rfl) rfl rfl fun v W a hR hB hlt hS => ?_
     subst hR
     refine st_v hS (hS.wanted rfl rfl rfl) rfl (run_not hS rfl) fun a hS => st_v hS rfl rfl (run_pick_f hS rfl rfl) fun a hS => st_v hS rfl rfl (run_move hS rfl) fun a hS => ?_
     refine st_split (d := 69) hS rfl (fun hc5 hS => ?_) (fun hc5 hS => ?_)
     ·
      try simp only [ty] at hc5
      refine st_skip hS (hS.unwanted rfl rfl rfl rfl) rfl fun a hS => st_skip hS (hS.unwanted rfl rfl rfl rfl) rfl fun a hS => st_skip hS (hS.unwanted rfl rfl rfl rfl) rfl fun a hS => st_skip hS (hS.unwanted rfl rfl rfl rfl) rfl fun a hS => st_v hS rfl rfl (run_pick_t hS rfl rfl) fun a hS => wl_nil ?_
      have hS := hS.sub (κ' := [(0, _), (1, _), (35, _), (36, _), (37, _), (5, _), (6, _), (74, _)]) (Sub.cons rfl (Sub.cons rfl (Sub.cons rfl (Sub.cons rfl (Sub.cons rfl (Sub.cons rfl (Sub.cons rfl (Sub.cons rfl Sub.nil))))))))
      refine st_cond_t hS rfl ?_
      refine wpIn_seq ?_
      refine wpIn_region_lit ?_
      refine st_v hS rfl rfl (run_assign hS rfl) fun a hS => wl_nil ?_
      refine wpIn_ret ?_
      repeat (first | refine q_ret ?_ | refine q_block_ret ?_)
      refine hS.done (res1 (fn := Tryz.f154) (r1 := .tmp 2) rfl (rv_tmp hS rfl)) ?_
      have h : rotOk r = false := by rw [rotOk_eq]; simp [hc1, hc3, hc4, hc5]
      rw [checkRot, h]; rfl
     ·
      try simp only [ty] at hc5
      refine st_v hS (hS.wanted rfl rfl rfl) rfl (run_fieldAddr fa27_9 hS rfl) fun a hS => st_v hS (hS.wanted rfl rfl rfl) rfl (run_load_one (i := 2) Tryz.isAgg3 hS rfl rfl rfl) fun a hS => st_call (rotor_within) Tryz.call81 hS (hS.wanted rfl rfl rfl) rfl rfl fun v W a hR hB hlt hS => ?_
      subst hR
      refine st_v hS (hS.wanted rfl rfl rfl) rfl (run_not hS rfl) fun a hS => st_v hS rfl rfl (run_pick_f hS rfl rfl) fun a hS => wl_nil ?_
      have hS := hS.sub (κ' := [(0, _), (1, _), (35, _), (36, _), (37, _), (5, _), (6, _), (74, _)]) (Sub.cons rfl (Sub.cons rfl (Sub.cons rfl (Sub.cons rfl (Sub.cons rfl (Sub.cons rfl (Sub.cons rfl (Sub.cons rfl Sub.nil))))))))
      refine st_cond hS rfl (fun hc6 => ?_) (fun hc6 => ?_)
      ·
       try simp only [ty] at hc6
       refine wpIn_seq ?_
       refine wpIn_region_lit ?_
       refine st_v hS rfl rfl (run_assign hS rfl) fun a hS => wl_nil ?_
       refine wpIn_ret ?_
       repeat (first | refine q_ret ?_ | refine q_block_ret ?_)
       refine hS.done (res1 (fn := Tryz.f154) (r1 := .tmp 2) rfl (rv_tmp hS rfl)) ?_
       have h : rotOk r = false := by rw [rotOk_eq]; simp [hc1, hc3, hc4, hc5, hc6]
       rw [checkRot, h]; rfl
      ·
       try simp only [ty] at hc6
       have hlims : limsOk r = true := lims_good (V := Vr) fun j hj => hg j (by omega)
       have hlh := lims_low hlims
       obtain ⟨hlX, hlY, hlV, hlR⟩ := tab_axes hlh.1; obtain ⟨hhX, hhY, hhV, hhR⟩ := tab_axes hlh.2
       have hsX : r.low.X = r.high.X := by first | assumption | simp_all
       have hsY : r.low.Y = r.high.Y := by first | assumption | simp_all
       have hcl : within r.climb 1 1000 = true := by first | assumption | simp_all
       have hbu : within r.burn 1 1000 = true := by first | assumption | simp_all
       have hl12 := hlX.most; have hl13 := hlY.most
       have hsXl : r.low.X.length = r.high.X.length := by rw [hsX]
       have hsYl : r.low.Y.length = r.high.Y.length := by rw [hsY]
       have hlowR : ∀ i, i < r.low.V.length → (rowOf r.low.V i).length = r.low.Y.length := fun i hi => (hlR _ (getD_mem hi)).1
       have hhighR : ∀ i, i < r.high.V.length → (rowOf r.high.V i).length = r.high.Y.length := fun i hi => (hhR _ (getD_mem hi)).1
       refine wpIn_skip ?_
       refine wpIn_seq ?_
       refine wpIn_seq ?_
       refine wpIn_region_lit ?_
       refine st_v hS rfl rfl (run_fieldAddr fa25_2 hS rfl) fun a hS => st_v hS rfl rfl (run_load_one (i := 1) Tryz.isAgg23 hS rfl rfl rfl) fun a hS => st_v hS rfl rfl (run_len_slice Tryz.underlying23 hS rfl) fun a hS => st_v hS rfl rfl (run_move hS rfl) fun a hS => wl_nil ?_
       refine wpIn_block ?_
       refine st_loop2 (α := Nat) (fun i => [(78, .int .i64 (((i : Nat) : Int)))]) [(0, _), (1, _), (35, _), (36, _), (37, _), (5, _), (6, _), (76, _), (77, _)] (fun l _ => l) (fun i => i ≤ r.low.V.length ∧ ∀ j k, j < i → k < r.low.Y.length → vat r.low j k ≤ vat r.high j k) (fun i => r.low.V.length - i) (0) hS (Sub.cons rfl (Sub.cons rfl (Sub.cons rfl (Sub.cons rfl (Sub.cons rfl (Sub.cons rfl (Sub.cons rfl (Sub.cons rfl (Sub.cons rfl (Sub.cons rfl Sub.nil)))))))))) rfl (⟨Nat.zero_le _, fun j k hj => absurd hj (Nat.not_lt_zero j)⟩) (fun i W a hφ hS => ?_)
       dsimp only [setB, List.cons_append, List.nil_append, List.take] at hS
       obtain ⟨hi, hgi⟩ := hφ
       refine wpIn_seq ?_
       refine wpIn_region_lit ?_
       refine st_v hS rfl rfl (run_bin hS rfl rfl rfl) fun a hS => wl_nil ?_
       refine wpIn_seq ?_
       refine st_cond hS rfl (fun hc7 => ?_) (fun hc7 => ?_)
       ·
        try simp only [ty] at hc7
        refine wpIn_skip ?_
        refine wpIn_seq ?_
        refine wpIn_block ?_
        refine wpIn_seq ?_
        refine wpIn_region_lit ?_
        refine st_v hS rfl rfl (run_move hS rfl) fun a hS => ?_
        obtain ⟨ad1, s1, hA1, hL1, hR1⟩ := sl_rowB ((fun W hC => ((fun W hC => (Hr W hC).low) W hC).2.2) _ (Below.refl _ _)) (i := ((i : Nat) : Int)) (j := i) (by omega) (by omega)
        refine st_v hS rfl rfl (run_indexAddr Tryz.underlying23 Tryz.sizeOf22 hS rfl rfl hA1 (by omega) (by omega)) fun a hS => st_v hS rfl rfl (run_load_cell Tryz.isAgg22 hS rfl (hL1 _ hS.below)) fun a hS => st_v hS rfl rfl (run_assign hS rfl) fun a hS => st_v hS rfl rfl (run_assign hS rfl) fun a hS => wl_nil ?_
        refine wpIn_seq ?_
        refine wpIn_region_lit ?_
        refine st_v hS rfl rfl (run_move hS rfl) fun a hS => st_v hS rfl rfl (run_len_slice Tryz.underlying22 hS rfl) fun a hS => st_v hS rfl rfl (run_move hS rfl) fun a hS => wl_nil ?_
        refine wpIn_block ?_
        refine st_loop2 (α := Nat) (fun k => [(85, .int .i64 (((k : Nat) : Int)))]) [(0, _), (1, _), (35, _), (36, _), (37, _), (5, _), (6, _), (76, _), (77, _), (78, _), (7, _), (8, _), (83, _), (84, _)] (fun l _ => l) (fun k => k ≤ (rowOf r.low.V i).length ∧ ∀ j, j < k → vat r.low i j ≤ vat r.high i j) (fun k => (rowOf r.low.V i).length - k) (0) hS (Sub.cons rfl (Sub.cons rfl (Sub.cons rfl (Sub.cons rfl (Sub.cons rfl (Sub.cons rfl (Sub.cons rfl (Sub.cons rfl (Sub.cons rfl (Sub.cons rfl (Sub.cons rfl (Sub.cons rfl (Sub.cons rfl (Sub.cons rfl (Sub.cons rfl Sub.nil))))))))))))))) rfl (⟨Nat.zero_le _, fun j hj => absurd hj (Nat.not_lt_zero j)⟩) (fun k W a hφ hS => ?_)
        dsimp only [setB, List.cons_append, List.nil_append, List.take] at hS
        obtain ⟨hk, hgk⟩ := hφ
        have hll := hlowR i (by omega); have hhl := hhighR i (by omega)
        refine wpIn_seq ?_
        refine wpIn_region_lit ?_
        refine st_v hS rfl rfl (run_bin hS rfl rfl rfl) fun a hS => wl_nil ?_
        refine wpIn_seq ?_
        refine st_cond hS rfl (fun hc8 => ?_) (fun hc8 => ?_)
        ·
         try simp only [ty] at hc8
         refine wpIn_skip ?_
         refine wpIn_seq ?_
         refine wpIn_block ?_
         refine wpIn_seq ?_
         refine wpIn_region_lit ?_
         refine st_v hS rfl rfl (run_move hS rfl) fun a hS => ?_
         obtain ⟨ad2, hA2, hL2⟩ := sl_int hR1 (Below.refl _ _) (i := ((k : Nat) : Int)) (j := k) (by omega) (by omega)
         refine st_v hS rfl rfl (run_indexAddr Tryz.underlying22 Tryz.sizeOf3 hS rfl rfl hA2 (by omega) (by omega)) fun a hS => st_v hS rfl rfl (run_load_cell Tryz.isAgg3 hS rfl (hL2 _ hS.below)) fun a hS => st_v hS rfl rfl (run_assign hS rfl) fun a hS => st_v hS rfl rfl (run_assign hS rfl) fun a hS => wl_nil ?_
         refine wpIn_seq ?_
         refine wpIn_region_lit ?_
         refine st_v hS rfl rfl (run_move hS rfl) fun a hS => st_v hS rfl rfl (run_fieldAddr fa25_2 hS rfl) fun a hS => st_v hS rfl rfl (run_load_one (i := 0) Tryz.isAgg23 hS rfl rfl rfl) fun a hS => st_v hS rfl rfl (run_move hS rfl) fun a hS => ?_
         obtain ⟨ad3, s3, hA3, hL3, hR3⟩ := sl_rowB ((fun W hC => ((fun W hC => (Hr W hC).high) W hC).2.2) _ (Below.refl _ _)) (i := ((i : Nat) : Int)) (j := i) (by omega) (by omega)
         refine st_v hS rfl rfl (run_indexAddr Tryz.underlying23 Tryz.sizeOf22 hS rfl rfl hA3 (by omega) (by omega)) fun a hS => st_v hS rfl rfl (run_load_cell Tryz.isAgg22 hS rfl (hL3 _ hS.below)) fun a hS => st_v hS rfl rfl (run_move hS rfl) fun a hS => ?_
         obtain ⟨ad4, hA4, hL4⟩ := sl_int hR3 (Below.refl _ _) (i := ((k : Nat) : Int)) (j := k) (by omega) (by omega)
         refine st_v hS rfl rfl (run_indexAddr Tryz.underlying22 Tryz.sizeOf3 hS rfl rfl hA4 (by omega) (by omega)) fun a hS => st_v hS rfl rfl (run_load_cell Tryz.isAgg3 hS rfl (hL4 _ hS.below)) fun a hS => st_v hS rfl rfl (run_bin hS rfl rfl rfl) fun a hS => wl_nil ?_
         refine st_cond hS rfl (fun hc9 => ?_) (fun hc9 => ?_)
         ·
          try simp only [ty] at hc9
          refine wpIn_seq ?_
          refine wpIn_region_lit ?_
          refine st_v hS rfl rfl (run_assign hS rfl) fun a hS => wl_nil ?_
          refine wpIn_ret ?_
          repeat (first | refine q_ret ?_ | refine q_block_ret ?_)
          refine hS.done (res1 (fn := Tryz.f154) (r1 := .tmp 2) rfl (rv_tmp hS rfl)) ?_
          have h : notAbove r.low r.high = false := above_bad (i := i) (k := k) (by omega) (by omega) (by assumption)
          rw [checkRot, rotOk_eq, h, Bool.and_false, Bool.and_false]; rfl
         ·
          try simp only [ty] at hc9
          refine wpIn_skip ?_
          refine wpIn_region_lit ?_
          refine st_v hS rfl rfl (run_add (t := ((k + 1 : Nat) : Int)) hS rfl rfl (by omega) (by omega) (by omega)) fun a hS => st_v hS rfl rfl (run_move hS rfl) fun a hS => wl_nil ?_
          refine ⟨k + 1, ⟨⟨by omega, fun j hj => ?_⟩, by omega⟩, (hS.sub (Sub.cons rfl (Sub.cons rfl (Sub.cons rfl (Sub.cons rfl (Sub.cons rfl (Sub.cons rfl (Sub.cons rfl (Sub.cons rfl (Sub.cons rfl (Sub.cons rfl (Sub.cons rfl (Sub.cons rfl (Sub.cons rfl (Sub.cons rfl (Sub.cons rfl Sub.nil))))))))))))))))⟩
          by_cases e : j = k
          · subst e; assumption
          · exact hgk j (by omega)
        ·
         try simp only [ty] at hc8
         refine wpIn_exit ?_
         refine wpIn_region_lit ?_
         refine st_v hS rfl rfl (run_add (t := ((i + 1 : Nat) : Int)) hS rfl rfl (by omega) (by omega) (by omega)) fun a hS => st_v hS rfl rfl (run_move hS rfl) fun a hS => wl_nil ?_
         refine ⟨i + 1, ⟨⟨by omega, fun j k hj hk => ?_⟩, by omega⟩, (hS.sub (Sub.cons rfl (Sub.cons rfl (Sub.cons rfl (Sub.cons rfl (Sub.cons rfl (Sub.cons rfl (Sub.cons rfl (Sub.cons rfl (Sub.cons rfl (Sub.cons rfl Sub.nil)))))))))))⟩
         by_cases e : j = i
         · subst e; exact hgk k (by omega)
         · exact hgi j k (by omega) hk
       ·
        try simp only [ty] at hc7
        refine wpIn_exit ?_
        refine wpIn_seq ?_
        refine wpIn_region_lit ?_
        refine st_v hS rfl rfl (run_assign hS rfl) fun a hS => wl_nil ?_
        refine wpIn_ret ?_
        repeat (first | refine q_ret ?_ | refine q_block_ret ?_)
        refine hS.done (res1 (fn := Tryz.f154) (r1 := .tmp 2) rfl (rv_tmp hS rfl)) ?_
        have h : notAbove r.low r.high = true := above_good fun j k hj hk => hgi j k (by omega) hk
        rw [checkRot, rotOk_eq, h, hlims]; simp [hsX, hsY, hcl, hbu]
  ·
   refine st_alloc_agg Tryz.zeroValue25 hS rfl rfl fun W a b5 hS => wl_nil ?_
   refine anyh_next [false, true] hS (fun _ h => h) rfl ?_
   refine anyh_go (rs := [4]) (by kernel_rfl) (by simp) ⟨⟨_, rfl, ?_⟩, trivial⟩
   refine st_alloc_agg Tryz.zeroValue25 hS rfl rfl fun W a b6 hS => wl_nil ?_
   refine anyh_next [false, false, true] hS (fun _ h => h) rfl ?_
   refine anyh_go (rs := [6]) (by kernel_rfl) (by simp) ⟨⟨_, rfl, ?_⟩, trivial⟩
   refine st_store (i := 0) Tryz.sizeOf25 hS rfl rfl rfl rfl rfl rfl rfl rfl rfl fun W a hS => wl_nil ?_
   refine anyh_next [false, false, true] hS (fun _ h => h) rfl ?_
   refine anyh_go (rs := [7]) (by kernel_rfl) (by simp) ⟨⟨_, rfl, ?_⟩, trivial⟩
   refine st_store (i := 1) Tryz.sizeOf25 hS rfl rfl rfl rfl rfl rfl rfl rfl rfl fun W a hS => wl_nil ?_
   refine anyh_next [false, false, true] hS (fun _ h => h) rfl ?_
   refine anyh_done (by kernel_rfl) ?_ _
   refine wpIn_seq ?_
   refine wpIn_seq ?_
   refine wpIn_region_lit ?_
   refine st_v hS rfl rfl (run_fieldAddr fa25_0 hS rfl) fun a hS => st_v hS rfl rfl (run_load_one (i := 0) Tryz.isAgg22 hS rfl rfl rfl) fun a hS => st_v hS rfl rfl (run_fieldAddr fa25_0 hS rfl) fun a hS => st_v hS rfl rfl (run_load_one (i := 1) Tryz.isAgg22 hS rfl rfl rfl) fun a hS => st_call (slices_Equal Vr.low.x r.low.X Vr.high.x r.high.X ((fun W hC => ((fun W hC => (Hr W hC).low) W hC).1) _ hS.below) ((fun W hC => ((fun W hC => (Hr W hC).high) W hC).1) _ hS.below)) Tryz.call206 hS rfl rfl rfl fun v W a hR hB hlt hS => ?_
   subst hR
   refine st_v hS rfl rfl (run_not hS rfl) fun a hS => st_v hS rfl rfl (run_move hS rfl) fun a hS => ?_
   refine st_split (d := 55) hS rfl (fun hc3 hS => ?_) (fun hc3 hS => ?_)
   ·
    try simp only [ty] at hc3
    refine st_skip hS (hS.unwanted rfl rfl rfl rfl) rfl fun a hS => st_skip hS (hS.unwanted rfl rfl rfl rfl) rfl fun a hS => st_skip hS (hS.unwanted rfl rfl rfl rfl) rfl fun a hS => st_skip hS (hS.unwanted rfl rfl rfl rfl) rfl fun a hS => st_skip hS (hS.unwanted rfl rfl rfl rfl) rfl fun a hS => st_skip hS (hS.unwanted rfl rfl rfl rfl) rfl fun a hS => st_v hS rfl rfl (run_pick_t hS rfl rfl) fun a hS => st_v hS rfl rfl (run_move hS rfl) fun a hS => st_skip hS (hS.unwanted rfl rfl rfl rfl) rfl fun a hS => st_skip hS (hS.unwanted rfl rfl rfl rfl) rfl fun a hS => st_skip hS (hS.unwanted rfl rfl rfl rfl) rfl fun a hS => st_skip hS (hS.unwanted rfl rfl rfl rfl) rfl fun a hS => st_v hS rfl rfl (run_pick_t hS rfl rfl) fun a hS => st_v hS rfl rfl (run_move hS rfl) fun a hS => st_skip hS (hS.unwanted rfl rfl rfl rfl) rfl fun a hS => st_skip hS (hS.unwanted rfl rfl rfl rfl) rfl fun a hS => st_skip hS (hS.unwanted rfl rfl rfl rfl) rfl fun a hS => st_skip hS (hS.unwanted rfl rfl rfl rfl) rfl fun a hS => st_v hS rfl rfl (run_pick_t hS rfl rfl) fun a hS => wl_nil ?_
    have hS := hS.sub (κ' := [(0, _), (1, _), (35, _), (36, _), (37, _), (6, _), (5, _), (74, _)]) (Sub.cons rfl (Sub.cons rfl (Sub.cons rfl (Sub.cons rfl (Sub.cons rfl (Sub.cons rfl (Sub.cons rfl (Sub.cons rfl Sub.nil))))))))
    refine st_cond_t hS rfl ?_
    refine wpIn_seq ?_
    refine wpIn_region_lit ?_
    refine st_v hS rfl rfl (run_assign hS rfl) fun a hS => wl_nil ?_
    refine wpIn_ret ?_
    repeat (first | refine q_ret ?_ | refine q_block_ret ?_)
    refine hS.done (res1 (fn := Tryz.f154) (r1 := .tmp 2) rfl (rv_tmp hS rfl)) ?_
    have h : rotOk r = false := by rw [rotOk_eq]; simp [hc1, hc3]
    rw [checkRot, h]; rfl
   ·
    try simp only [ty] at hc3
    refine st_v hS (hS.wanted rfl rfl rfl) rfl (run_fieldAddr fa25_1 hS rfl) fun a hS => st_v hS (hS.wanted rfl rfl rfl) rfl (run_load_one (i := 0) Tryz.isAgg22 hS rfl rfl rfl) fun a hS => st_v hS (hS.wanted rfl rfl rfl) rfl (run_fieldAddr fa25_1 hS rfl) fun a hS => st_v hS (hS.wanted rfl rfl rfl) rfl (run_load_one (i := 1) Tryz.isAgg22 hS rfl rfl rfl) fun a hS => st_call (slices_Equal Vr.low.y r.low.Y Vr.high.y r.high.Y ((fun W hC => ((fun W hC => (Hr W hC).low) W hC).2.1) _ hS.below) ((fun W hC => ((fun W hC => (Hr W hC).high) W hC).2.1) _ hS.below)) Tryz.call206 hS (hS.wanted rfl rfl rfl) rfl rfl fun v W a hR hB hlt hS => ?_
    subst hR
    refine st_v hS (hS.wanted rfl rfl rfl) rfl (run_not hS rfl) fun a hS => st_v hS rfl rfl (run_pick_f hS rfl rfl) fun a hS => st_v hS rfl rfl (run_move hS rfl) fun a hS => ?_
    refine st_split (d := 63) hS rfl (fun hc4 hS => ?_) (fun hc4 hS => ?_)
    ·
     try simp only [ty] at hc4
     refine st_skip hS (hS.unwanted rfl rfl rfl rfl) rfl fun a hS => st_skip hS (hS.unwanted rfl rfl rfl rfl) rfl fun a hS => st_skip hS (hS.unwanted rfl rfl rfl rfl) rfl fun a hS => st_skip hS (hS.unwanted rfl rfl rfl rfl) rfl fun a hS => st_v hS rfl rfl (run_pick_t hS rfl rfl) fun a hS => st_v hS rfl rfl (run_move hS rfl) fun a hS => st_skip hS (hS.unwanted rfl rfl rfl rfl) rfl fun a hS => st_skip hS (hS.unwanted rfl rfl rfl rfl) rfl fun a hS => st_skip hS (hS.unwanted rfl rfl rfl rfl) rfl fun a hS => st_skip hS (hS.unwanted rfl rfl rfl rfl) rfl fun a hS => st_v hS rfl rfl (run_pick_t hS rfl rfl) fun a hS => wl_nil ?_
     have hS := hS.sub (κ' := [(0, _), (1, _), (35, _), (36, _), (37, _), (6, _), (5, _), (74, _)]) (Sub.cons rfl (Sub.cons rfl (Sub.cons rfl (Sub.cons rfl (Sub.cons rfl (Sub.cons rfl (Sub.cons rfl (Sub.cons rfl Sub.nil))))))))
     refine st_cond_t hS rfl ?_
     refine wpIn_seq ?_
     refine wpIn_region_lit ?_
     refine st_v hS rfl rfl (run_assign hS rfl) fun a hS => wl_nil ?_
     refine wpIn_ret ?_
     repeat (first | refine q_ret ?_ | refine q_block_ret ?_)
     refine hS.done (res1 (fn := Tryz.f154) (r1 := .tmp 2) rfl (rv_tmp hS rfl)) ?_
     have h : rotOk r = false := by rw [rotOk_eq]; simp [hc1, hc3, hc4]
     rw [checkRot, h]; rfl
    ·
     try simp only [ty] at hc4
     refine st_v hS (hS.wanted rfl rfl rfl) rfl (run_fieldAddr fa27_8 hS rfl) fun a hS => st_v hS (hS.wanted rfl rfl rfl) rfl (run_load_one (i := 2) Tryz.isAgg3 hS rfl rfl rfl) fun a hS => st_call (rotor_within) Tryz.call81 hS (hS.wanted rfl rfl rfl) rfl rfl fun v W a hR hB hlt hS => ?_
     subst hR
     refine st_v hS (hS.wanted rfl rfl rfl) rfl (run_not hS rfl) fun a hS => st_v hS rfl rfl (run_pick_f hS rfl rfl) fun a hS => st_v hS rfl rfl (run_move hS rfl) fun a hS => ?_
     refine st_split (d := 69) hS rfl (fun hc5 hS => ?_) (fun hc5 hS => ?_)
     ·
      try simp only [ty] at hc5
      refine st_skip hS (hS.unwanted rfl rfl rfl rfl) rfl fun a hS => st_skip hS (hS.unwanted rfl rfl rfl rfl) rfl fun a hS => st_skip hS (hS.unwanted rfl rfl rfl rfl) rfl fun a hS => st_skip hS (hS.unwanted rfl rfl rfl rfl) rfl fun a hS => st_v hS rfl rfl (run_pick_t hS rfl rfl) fun a hS => wl_nil ?_
      have hS := hS.sub (κ' := [(0, _), (1, _), (35, _), (36, _), (37, _), (6, _), (5, _), (74, _)]) (Sub.cons rfl (Sub.cons rfl (Sub.cons rfl (Sub.cons rfl (Sub.cons rfl (Sub.cons rfl (Sub.cons rfl (Sub.cons rfl Sub.nil))))))))
      refine st_cond_t hS rfl ?_
      refine wpIn_seq ?_
      refine wpIn_region_lit ?_
      refine st_v hS rfl rfl (run_assign hS rfl) fun a hS => wl_nil ?_
      refine wpIn_ret ?_
      repeat (first | refine q_ret ?_ | refine q_block_ret ?_)
      refine hS.done (res1 (fn := Tryz.f154) (r1 := .tmp 2) rfl (rv_tmp hS rfl)) ?_
      have h : rotOk r = false := by rw [rotOk_eq]; simp [hc1, hc3, hc4, hc5]
      rw [checkRot, h]; rfl
     ·
      try simp only [ty] at hc5
      refine st_v hS (hS.wanted rfl rfl rfl) rfl (run_fieldAddr fa27_9 hS rfl) fun a hS => st_v hS (hS.wanted rfl rfl rfl) rfl (run_load_one (i := 2) Tryz.isAgg3 hS rfl rfl rfl) fun a hS => st_call (rotor_within) Tryz.call81 hS (hS.wanted rfl rfl rfl) rfl rfl fun v W a hR hB hlt hS => ?_
      subst hR
      refine st_v hS (hS.wanted rfl rfl rfl) rfl (run_not hS rfl) fun a hS => st_v hS rfl rfl (run_pick_f hS rfl rfl) fun a hS => wl_nil ?_
      have hS := hS.sub (κ' := [(0, _), (1, _), (35, _), (36, _), (37, _), (6, _), (5, _), (74, _)]) (Sub.cons rfl (Sub.cons rfl (Sub.cons rfl (Sub.cons rfl (Sub.cons rfl (Sub.cons rfl (Sub.cons rfl (Sub.cons rfl Sub.nil))))))))
      refine st_cond hS rfl (fun hc6 => ?_) (fun hc6 => ?_)
      ·
       try simp only [ty] at hc6
       refine wpIn_seq ?_
       refine wpIn_region_lit ?_
       refine st_v hS rfl rfl (run_assign hS rfl) fun a hS => wl_nil ?_
       refine wpIn_ret ?_
       repeat (first | refine q_ret ?_ | refine q_block_ret ?_)
       refine hS.done (res1 (fn := Tryz.f154) (r1 := .tmp 2) rfl (rv_tmp hS rfl)) ?_
       have h : rotOk r = false := by rw [rotOk_eq]; simp [hc1, hc3, hc4, hc5, hc6]
       rw [checkRot, h]; rfl
      ·
       try simp only [ty] at hc6
       have hlims : limsOk r = true := lims_good (V := Vr) fun j hj => hg j (by omega)
       have hlh := lims_low hlims
       obtain ⟨hlX, hlY, hlV, hlR⟩ := tab_axes hlh.1; obtain ⟨hhX, hhY, hhV, hhR⟩ := tab_axes hlh.2
       have hsX : r.low.X = r.high.X := by first | assumption | simp_all
       have hsY : r.low.Y = r.high.Y := by first | assumption | simp_all
       have hcl : within r.climb 1 1000 = true := by first | assumption | simp_all
       have hbu : within r.burn 1 1000 = true := by first | assumption | simp_all
       have hl12 := hlX.most; have hl13 := hlY.most
       have hsXl : r.low.X.length = r.high.X.length := by rw [hsX]
       have hsYl : r.low.Y.length = r.high.Y.length := by rw [hsY]
       have hlowR : ∀ i, i < r.low.V.length → (rowOf r.low.V i).length = r.low.Y.length := fun i hi => (hlR _ (getD_mem hi)).1
       have hhighR : ∀ i, i < r.high.V.length → (rowOf r.high.V i).length = r.high.Y.length := fun i hi => (hhR _ (getD_mem hi)).1
       refine wpIn_skip ?_
       refine wpIn_seq ?_
       refine wpIn_seq ?_
       refine wpIn_region_lit ?_
       refine st_v hS rfl rfl (run_fieldAddr fa25_2 hS rfl) fun a hS => st_v hS rfl rfl (run_load_one (i := 0) Tryz.isAgg23 hS rfl rfl rfl) fun a hS => st_v hS rfl rfl (run_len_slice Tryz.underlying23 hS rfl) fun a hS => st_v hS rfl rfl (run_move hS rfl) fun a hS => wl_nil ?_
       refine wpIn_block ?_
       refine st_loop2 (α := Nat) (fun i => [(78, .int .i64 (((i : Nat) : Int)))]) [(0, _), (1, _), (35, _), (36, _), (37, _), (6, _), (5, _), (76, _), (77, _)] (fun l _ => l) (fun i => i ≤ r.low.V.length ∧ ∀ j k, j < i → k < r.low.Y.length → vat r.low j k ≤ vat r.high j k) (fun i => r.low.V.length - i) (0) hS (Sub.cons rfl (Sub.cons rfl (Sub.cons rfl (Sub.cons rfl (Sub.cons rfl (Sub.cons rfl (Sub.cons rfl (Sub.cons rfl (Sub.cons rfl (Sub.cons rfl Sub.nil)))))))))) rfl (⟨Nat.zero_le _, fun j k hj => absurd hj (Nat.not_lt_zero j)⟩) (fun i W a hφ hS => ?_)
       dsimp only [setB, List.cons_append, List.nil_append, List.take] at hS
       obtain ⟨hi, hgi⟩ := hφ
       refine wpIn_seq ?_
       refine wpIn_region_lit ?_
       refine st_v hS rfl rfl (run_bin hS rfl rfl rfl) fun a hS => wl_nil ?_
       refine wpIn_seq ?_
       refine st_cond hS rfl (fun hc7 => ?_) (fun hc7 => ?_)
       ·
        try simp only [ty] at hc7
        refine wpIn_skip ?_
        refine wpIn_seq ?_
        refine wpIn_block ?_
        refine wpIn_seq ?_
        refine wpIn_region_lit ?_
        refine st_v hS rfl rfl (run_move hS rfl) fun a hS => ?_
        obtain ⟨ad5, s5, hA5, hL5, hR5⟩ := sl_rowB ((fun W hC => ((fun W hC => (Hr W hC).low) W hC).2.2) _ (Below.refl _ _)) (i := ((i : Nat) : Int)) (j := i) (by omega) (by omega)
        refine st_v hS rfl rfl (run_indexAddr Tryz.underlying23 Tryz.sizeOf22 hS rfl rfl hA5 (by omega) (by omega)) fun a hS => st_v hS rfl rfl (run_load_cell Tryz.isAgg22 hS rfl (hL5 _ hS.below)) fun a hS => st_v hS rfl rfl (run_assign hS rfl) fun a hS => st_v hS rfl rfl (run_assign hS rfl) fun a hS => wl_nil ?_
        refine wpIn_seq ?_
        refine wpIn_region_lit ?_
        refine st_v hS rfl rfl (run_move hS rfl) fun a hS => st_v hS rfl rfl (run_len_slice Tryz.underlying22 hS rfl) fun a hS => st_v hS rfl rfl (run_move hS rfl) fun a hS => wl_nil ?_
        refine wpIn_block ?_
        refine st_loop2 (α := Nat) (fun k => [(85, .int .i64 (((k : Nat) : Int)))]) [(0, _), (1, _), (35, _), (36, _), (37, _), (6, _), (5, _), (76, _), (77, _), (78, _), (7, _), (8, _), (83, _), (84, _)] (fun l _ => l) (fun k => k ≤ (rowOf r.low.V i).length ∧ ∀ j, j < k → vat r.low i j ≤ vat r.high i j) (fun k => (rowOf r.low.V i).length - k) (0) hS (Sub.cons rfl (Sub.cons rfl (Sub.cons rfl (Sub.cons rfl (Sub.cons rfl (Sub.cons rfl (Sub.cons rfl (Sub.cons rfl (Sub.cons rfl (Sub.cons rfl (Sub.cons rfl (Sub.cons rfl (Sub.cons rfl (Sub.cons rfl (Sub.cons rfl Sub.nil))))))))))))))) rfl (⟨Nat.zero_le _, fun j hj => absurd hj (Nat.not_lt_zero j)⟩) (fun k W a hφ hS => ?_)
        dsimp only [setB, List.cons_append, List.nil_append, List.take] at hS
        obtain ⟨hk, hgk⟩ := hφ
        have hll := hlowR i (by omega); have hhl := hhighR i (by omega)
        refine wpIn_seq ?_
        refine wpIn_region_lit ?_
        refine st_v hS rfl rfl (run_bin hS rfl rfl rfl) fun a hS => wl_nil ?_
        refine wpIn_seq ?_
        refine st_cond hS rfl (fun hc8 => ?_) (fun hc8 => ?_)
        ·
         try simp only [ty] at hc8
         refine wpIn_skip ?_
         refine wpIn_seq ?_
         refine wpIn_block ?_
         refine wpIn_seq ?_
         refine wpIn_region_lit ?_
         refine st_v hS rfl rfl (run_move hS rfl) fun a hS => ?_
         obtain ⟨ad6, hA6, hL6⟩ := sl_int hR5 (Below.refl _ _) (i := ((k : Nat) : Int)) (j := k) (by omega) (by omega)
         refine st_v hS rfl rfl (run_indexAddr Tryz.underlying22 Tryz.sizeOf3 hS rfl rfl hA6 (by omega) (by omega)) fun a hS => st_v hS rfl rfl (run_load_cell Tryz.isAgg3 hS rfl (hL6 _ hS.below)) fun a hS => st_v hS rfl rfl (run_assign hS rfl) fun a hS => st_v hS rfl rfl (run_assign hS rfl) fun a hS => wl_nil ?_
         refine wpIn_seq ?_
         refine wpIn_region_lit ?_
         refine st_v hS rfl rfl (run_move hS rfl) fun a hS => st_v hS rfl rfl (run_fieldAddr fa25_2 hS rfl) fun a hS => st_v hS rfl rfl (run_load_one (i := 1) Tryz.isAgg23 hS rfl rfl rfl) fun a hS => st_v hS rfl rfl (run_move hS rfl) fun a hS => ?_
         obtain ⟨ad7, s7, hA7, hL7, hR7⟩ := sl_rowB ((fun W hC => ((fun W hC => (Hr W hC).high) W hC).2.2) _ (Below.refl _ _)) (i := ((i : Nat) : Int)) (j := i) (by omega) (by omega)
         refine st_v hS rfl rfl (run_indexAddr Tryz.underlying23 Tryz.sizeOf22 hS rfl rfl hA7 (by omega) (by omega)) fun a hS => st_v hS rfl rfl (run_load_cell Tryz.isAgg22 hS rfl (hL7 _ hS.below)) fun a hS => st_v hS rfl rfl (run_move hS rfl) fun a hS => ?_
         obtain ⟨ad8, hA8, hL8⟩ := sl_int hR7 (Below.refl _ _) (i := ((k : Nat) : Int)) (j := k) (by omega) (by omega)
         refine st_v hS rfl rfl (run_indexAddr Tryz.underlying22 Tryz.sizeOf3 hS rfl rfl hA8 (by omega) (by omega)) fun a hS => st_v hS rfl rfl (run_load_cell Tryz.isAgg3 hS rfl (hL8 _ hS.below)) fun a hS => st_v hS rfl rfl (run_bin hS rfl rfl rfl) fun a hS => wl_nil ?_
         refine st_cond hS rfl (fun hc9 => ?_) (fun hc9 => ?_)
         ·
          try simp only [ty] at hc9
          refine wpIn_seq ?_
          refine wpIn_region_lit ?_
          refine st_v hS rfl rfl (run_assign hS rfl) fun a hS => wl_nil ?_
          refine wpIn_ret ?_
          repeat (first | refine q_ret ?_ | refine q_block_ret ?_)
          refine hS.done (res1 (fn := Tryz.f154) (r1 := .tmp 2) rfl (rv_tmp hS rfl)) ?_
          have h : notAbove r.low r.high = false := above_bad (i := i) (k := k) (by omega) (by omega) (by assumption)
          rw [checkRot, rotOk_eq, h, Bool.and_false, Bool.and_false]; rfl
         ·
          try simp only [ty] at hc9
          refine wpIn_skip ?_
          refine wpIn_region_lit ?_
          refine st_v hS rfl rfl (run_add (t := ((k + 1 : Nat) : Int)) hS rfl rfl (by omega) (by omega) (by omega)) fun a hS => st_v hS rfl rfl (run_move hS rfl) fun a hS => wl_nil ?_
          refine ⟨k + 1, ⟨⟨by omega, fun j hj => ?_⟩, by omega⟩, (hS.sub (Sub.cons rfl (Sub.cons rfl (Sub.cons rfl (Sub.cons rfl (Sub.cons rfl (Sub.cons rfl (Sub.cons rfl (Sub.cons rfl (Sub.cons rfl (Sub.cons rfl (Sub.cons rfl (Sub.cons rfl (Sub.cons rfl (Sub.cons rfl (Sub.cons rfl Sub.nil))))))))))))))))⟩
          by_cases e : j = k
          · subst e; assumption
          · exact hgk j (by omega)
        ·
         try simp only [ty] at hc8
         refine wpIn_exit ?_
         refine wpIn_region_lit ?_
         refine st_v hS rfl rfl (run_add (t := ((i + 1 : Nat) : Int)) hS rfl rfl (by omega) (by omega) (by omega)) fun a hS => st_v hS rfl rfl (run_move hS rfl) fun a hS => wl_nil ?_
         refine ⟨i + 1, ⟨⟨by omega, fun j k hj hk => ?_⟩, by omega⟩, (hS.sub (Sub.cons rfl (Sub.cons rfl (Sub.cons rfl (Sub.cons rfl (Sub.cons rfl (Sub.cons rfl (Sub.cons rfl (Sub.cons rfl (Sub.cons rfl (Sub.cons rfl Sub.nil)))))))))))⟩
         by_cases e : j = i
         · subst e; exact hgk k (by omega)
         · exact hgi j k (by omega) hk
       ·
        try simp only [ty] at hc7
        refine wpIn_exit ?_
        refine wpIn_seq ?_
        refine wpIn_region_lit ?_
        refine st_v hS rfl rfl (run_assign hS rfl) fun a hS => wl_nil ?_
        refine wpIn_ret ?_
        repeat (first | refine q_ret ?_ | refine q_block_ret ?_)
        refine hS.done (res1 (fn := Tryz.f154) (r1 := .tmp 2) rfl (rv_tmp hS rfl)) ?_
        have h : notAbove r.low r.high = true := above_good fun j k hj hk => hgi j k (by omega) hk
        rw [checkRot, rotOk_eq, h, hlims]; simp [hsX, hsY, hcl, hbu]


set_option maxHeartbeats 2000000 in
set_option maxRecDepth 100000 in
theorem ref02_same  (sl : SV) (l : List Int) (sm : SV) (m : List Int) {w : World} {Fl : Nat → Prop} (hl : Sl kInt Fl w sl l) {Fm : Nat → Prop} (hm : Sl kInt Fm w sm m)  : Ret Tryz.prog 173 [.slice sl.a l.length sl.c, .slice sm.a m.length sm.c] w (fun v _ => v = .bool (decide (l = m))) := by
 refine ret_start (n := 26) Tryz.func173 rfl rfl rfl (fun a hS => ?_)
 have Hl : ∀ W, Below w.heap.size w W → Sl kInt Fl W sl l := fun W hb => hl.at_ hb
 have hml := hl.len
 have Hm : ∀ W, Below w.heap.size w W → Sl kInt Fm W sm m := fun W hb => hm.at_ hb
 have hmm := hm.len
 refine wpIn_seq ?_
 refine wpIn_region_lit ?_
 refine st_v hS rfl rfl (run_assign hS rfl) fun a hS => wl_nil ?_
 refine wpIn_seq ?_
 refine wpIn_seq ?_
 refine wpIn_region_lit ?_
 refine st_v hS rfl rfl (run_move hS rfl) fun a hS => st_v hS rfl rfl (run_len_slice Tryz.underlying22 hS rfl) fun a hS => st_v hS rfl rfl (run_move hS rfl) fun a hS => st_v hS rfl rfl (run_len_slice Tryz.underlying22 hS rfl) fun a hS => st_v hS rfl rfl (run_bin hS rfl rfl rfl) fun a hS => wl_nil ?_
 refine st_cond hS rfl (fun hc1 => ?_) (fun hc1 => ?_)
 ·
  try simp only [ty] at hc1
  refine wpIn_seq ?_
  refine wpIn_region_lit ?_
  refine st_v hS rfl rfl (run_assign hS rfl) fun a hS => wl_nil ?_
  refine wpIn_ret ?_
  repeat (first | refine q_ret ?_ | refine q_block_ret ?_)
  refine hS.done (res1 (fn := Tryz.f173) (r1 := .tmp 4) rfl (rv_tmp hS rfl)) ?_
  refine vb ?_; simp only [Bool.false_eq_true, decide_eq_true_eq, false_iff]; intro e; subst e; omega
 ·
  try simp only [ty] at hc1
  refine wpIn_skip ?_
  refine wpIn_seq ?_
  refine wpIn_seq ?_
  refine wpIn_region_lit ?_
  refine st_v hS rfl rfl (run_assign hS rfl) fun a hS => wl_nil ?_
  refine wpIn_block ?_
  refine st_loop2 (α := Nat) (fun x => [(5, .int .i64 (((x : Nat) : Int)))]) [(0, _), (1, _)] (fun l _ => l) (fun x => x ≤ l.length ∧ ∀ j, j < x → ix l j = ix m j) (fun x => l.length - x) (0) hS (Sub.cons rfl (Sub.cons rfl (Sub.cons rfl Sub.nil))) rfl (⟨Nat.zero_le _, fun j hj => absurd hj (Nat.not_lt_zero j)⟩) (fun x W a hφ hS => ?_)
  dsimp only [setB, List.cons_append, List.nil_append, List.take] at hS
  obtain ⟨hx, hg⟩ := hφ
  refine wpIn_seq ?_
  refine wpIn_seq ?_
  refine wpIn_region_lit ?_
  refine st_v hS rfl rfl (run_move hS rfl) fun a hS => st_v hS rfl rfl (run_move hS rfl) fun a hS => st_v hS rfl rfl (run_len_slice Tryz.underlying22 hS rfl) fun a hS => st_v hS rfl rfl (run_bin hS rfl rfl rfl) fun a hS => wl_nil ?_
  refine st_cond hS rfl (fun hc2 => ?_) (fun hc2 => ?_)
  ·
   try simp only [ty] at hc2
   refine wpIn_skip ?_
   refine wpIn_seq ?_
   refine wpIn_block ?_
   refine wpIn_seq ?_
   refine st_draw (by kernel_rfl) (by kernel_rfl) hS ?_
   refine qt_v hS rfl rfl (fun W hB hS => run_move hS rfl) fun a hS => qt_v hS rfl rfl (fun W hB hS => run_move hS rfl) fun a hS => ?_
   obtain ⟨ad0, hA0, hL0⟩ := sl_int Hl (Below.refl _ _) (i := ((x : Nat) : Int)) (j := x) (by omega) (by omega)
   refine qt_v hS rfl rfl (fun W hB hS => run_indexAddr Tryz.underlying22 Tryz.sizeOf3 hS rfl rfl hA0 (by omega) (by omega)) fun a hS => qt_v hS rfl rfl (fun W hB hS => run_load_cell Tryz.isAgg3 hS rfl (hL0 _ hS.below)) fun a hS => qt_v hS rfl rfl (fun W hB hS => run_move hS rfl) fun a hS => qt_v hS rfl rfl (fun W hB hS => run_move hS rfl) fun a hS => ?_
   obtain ⟨ad1, hA1, hL1⟩ := sl_int Hm (Below.refl _ _) (i := ((x : Nat) : Int)) (j := x) (by omega) (by omega)
   refine qt_v hS rfl rfl (fun W hB hS => run_indexAddr Tryz.underlying22 Tryz.sizeOf3 hS rfl rfl hA1 (by omega) (by omega)) fun a hS => qt_v hS rfl rfl (fun W hB hS => run_load_cell Tryz.isAgg3 hS rfl (hL1 _ hS.below)) fun a hS => qt_v hS rfl rfl (fun W hB hS => run_bin hS rfl rfl rfl) fun a hS => qt_nil hS fun W hS => ?_
   refine st_cond hS rfl (fun hc3 => ?_) (fun hc3 => ?_)
   ·
    try simp only [ty] at hc3
    refine wpIn_seq ?_
    refine wpIn_region_lit ?_
    refine st_v hS rfl rfl (run_assign hS rfl) fun a hS => wl_nil ?_
    refine wpIn_ret ?_
    repeat (first | refine q_ret ?_ | refine q_block_ret ?_)
    refine hS.done (res1 (fn := Tryz.f173) (r1 := .tmp 4) rfl (rv_tmp hS rfl)) ?_
    refine vb ?_; simp only [Bool.false_eq_true, decide_eq_true_eq, false_iff]; intro e; subst e; simp at hc3
   ·
    try simp only [ty] at hc3
    refine wpIn_skip ?_
    refine wpIn_region_lit ?_
    refine st_v hS rfl rfl (run_move hS rfl) fun a hS => st_v hS rfl rfl (run_add (t := ((x + 1 : Nat) : Int)) hS rfl rfl (by omega) (by omega) (by omega)) fun a hS => st_v hS rfl rfl (run_assign hS rfl) fun a hS => wl_nil ?_
    refine ⟨x + 1, ⟨⟨by omega, fun j hj => ?_⟩, by omega⟩, (hS.sub (Sub.cons rfl (Sub.cons rfl (Sub.cons rfl Sub.nil))))⟩
    by_cases e : j = x
    · subst e; simpa using hc3
    · exact hg j (by omega)
  ·
   try simp only [ty] at hc2
   refine wpIn_exit ?_
   refine wpIn_seq ?_
   refine wpIn_region_lit ?_
   refine st_v hS rfl rfl (run_assign hS rfl) fun a hS => wl_nil ?_
   refine wpIn_ret ?_
   repeat (first | refine q_ret ?_ | refine q_block_ret ?_)
   refine hS.done (res1 (fn := Tryz.f173) (r1 := .tmp 4) rfl (rv_tmp hS rfl)) ?_
   refine vb ?_; simp only [decide_eq_true_eq, true_iff]; exact ix_ext (by omega) (fun j hj => hg j (by omega))


theorem inAll_bad {t : Tab} {lo hi : Int} {i k : Nat} (hi' : i < t.V.length) (hk : k < (rowOf t.V i).length) (h : within (ix (rowOf t.V i) k) lo hi = false) : inAll t lo hi = false := by
  unfold inAll
  exact all_bad (d := []) hi' (all_bad (d := 0) hk h)
theorem inAll_good {t : Tab} {lo hi : Int} (h : ∀ i k, i < t.V.length → k < (rowOf t.V i).length → within (ix (rowOf t.V i) k) lo hi = true) : inAll t lo hi = true := by
  unfold inAll
  exact all_good (d := []) fun i hi' => all_good (d := 0) fun k hk => h i k hi' hk


set_option maxHeartbeats 2000000 in
set_option maxRecDepth 100000 in
theorem ref02_filled  (Vt : TV) (t : Tab) {lo : Int} {hi : Int} {w : World} {Ft : Nat → Prop} (ht : TabR Ft w Vt t)  : Ret Tryz.prog 172 [.agg (tabC Vt t).toArray, .int .i64 lo, .int .i64 hi] w (fun v _ => v = .bool (filled t lo hi)) := by
 refine ret_start (n := 38) Tryz.func172 rfl rfl rfl (fun a hS => ?_)
 have Ht : ∀ W, Below w.heap.size w W → TabR Ft W Vt t := fun W hb => ht.move (keep_of hb)
 have hmtx := ht.1.len
 have hmty := ht.2.1.len
 have hmtv := ht.2.2.len
 refine wpIn_seq ?_
 refine wpIn_region_lit ?_
 refine st_box_agg hS rfl rfl rfl fun W a b0 hS => st_v hS rfl rfl (run_assign hS rfl) fun a hS => wl_nil ?_
 refine wpIn_seq ?_
 refine wpIn_seq ?_
 refine wpIn_region_lit ?_
 refine st_v hS rfl rfl (run_load_all (i := 0) Tryz.isAgg25 Tryz.sizeOf25 hS rfl rfl rfl) fun a hS => st_call (ref01_CheckTable Vt t (Ht _ hS.below)) Tryz.call216 hS rfl rfl rfl fun v W a hR hB hlt hS => ?_
 subst hR
 refine st_v hS rfl rfl (run_bin hS rfl rfl rfl) fun a hS => wl_nil ?_
 refine st_cond hS rfl (fun hc1 => ?_) (fun hc1 => ?_)
 ·
  try simp only [ty] at hc1
  refine wpIn_seq ?_
  refine wpIn_region_lit ?_
  refine st_v hS rfl rfl (run_assign hS rfl) fun a hS => wl_nil ?_
  refine wpIn_ret ?_
  repeat (first | refine q_ret ?_ | refine q_block_ret ?_)
  refine hS.done (res1 (fn := Tryz.f172) (r1 := .tmp 6) rfl (rv_tmp hS rfl)) ?_
  have h : tabOk t = false := by simpa using hc1
  refine vb ?_; simp [filled, h]
 ·
  try simp only [ty] at hc1
  have hok : tabOk t = true := by
    cases h : tabOk t <;> simp [h] at hc1 ⊢
  obtain ⟨hX, hY, hV, hR⟩ := tab_axes hok
  have hl12 := hX.most; have hl13 := hY.most
  have hrows : ∀ i, i < t.V.length → (rowOf t.V i).length = t.Y.length := fun i hi => (hR _ (getD_mem hi)).1
  refine wpIn_skip ?_
  refine wpIn_seq ?_
  refine wpIn_seq ?_
  refine wpIn_region_lit ?_
  refine st_v hS rfl rfl (run_assign hS rfl) fun a hS => wl_nil ?_
  refine wpIn_block ?_
  refine st_loop2 (α := Nat) (fun i => [(7, .int .i64 (((i : Nat) : Int)))]) [(0, _), (1, _), (2, _), (3, _)] (fun l _ => l) (fun i => i ≤ t.X.length ∧ ∀ j k, j < i → k < t.Y.length → within (ix (rowOf t.V j) k) lo hi = true) (fun i => t.X.length - i) (0) hS (Sub.cons rfl (Sub.cons rfl (Sub.cons rfl (Sub.cons rfl (Sub.cons rfl Sub.nil))))) rfl (⟨Nat.zero_le _, fun j k hj => absurd hj (Nat.not_lt_zero j)⟩) (fun i W a hφ hS => ?_)
  dsimp only [setB, List.cons_append, List.nil_append, List.take] at hS
  obtain ⟨hi_, hgi⟩ := hφ
  refine wpIn_seq ?_
  refine wpIn_seq ?_
  refine wpIn_region_lit ?_
  refine st_v hS rfl rfl (run_move hS rfl) fun a hS => st_v hS rfl rfl (run_fieldAddr fa25_0 hS rfl) fun a hS => st_v hS rfl rfl (run_load_one (i := 0) Tryz.isAgg22 hS rfl rfl rfl) fun a hS => st_v hS rfl rfl (run_len_slice Tryz.underlying22 hS rfl) fun a hS => st_v hS rfl rfl (run_bin hS rfl rfl rfl) fun a hS => wl_nil ?_
  refine st_cond hS rfl (fun hc2 => ?_) (fun hc2 => ?_)
  ·
   try simp only [ty] at hc2
   refine wpIn_skip ?_
   refine wpIn_seq ?_
   refine wpIn_block ?_
   refine wpIn_seq ?_
   refine wpIn_region_lit ?_
   refine st_v hS rfl rfl (run_assign hS rfl) fun a hS => wl_nil ?_
   refine wpIn_block ?_
   refine st_loop2 (α := Nat) (fun k => [(8, .int .i64 (((k : Nat) : Int)))]) [(0, _), (1, _), (2, _), (3, _), (7, _)] (fun l _ => l) (fun k => k ≤ t.Y.length ∧ ∀ j, j < k → within (ix (rowOf t.V i) j) lo hi = true) (fun k => t.Y.length - k) (0) hS (Sub.cons rfl (Sub.cons rfl (Sub.cons rfl (Sub.cons rfl (Sub.cons rfl (Sub.cons rfl Sub.nil)))))) rfl (⟨Nat.zero_le _, fun j hj => absurd hj (Nat.not_lt_zero j)⟩) (fun k W a hφ hS => ?_)
   dsimp only [setB, List.cons_append, List.nil_append, List.take] at hS
   obtain ⟨hk, hgk⟩ := hφ
   have hll := hrows i (by omega)
   refine wpIn_seq ?_
   refine wpIn_seq ?_
   refine wpIn_region_lit ?_
   refine st_v hS rfl rfl (run_move hS rfl) fun a hS => st_v hS rfl rfl (run_fieldAddr fa25_1 hS rfl) fun a hS => st_v hS rfl rfl (run_load_one (i := 0) Tryz.isAgg22 hS rfl rfl rfl) fun a hS => st_v hS rfl rfl (run_len_slice Tryz.underlying22 hS rfl) fun a hS => st_v hS rfl rfl (run_bin hS rfl rfl rfl) fun a hS => wl_nil ?_
   refine st_cond hS rfl (fun hc3 => ?_) (fun hc3 => ?_)
   ·
    try simp only [ty] at hc3
    refine wpIn_skip ?_
    refine wpIn_seq ?_
    refine wpIn_block ?_
    refine wpIn_seq ?_
    refine wpIn_region_lit ?_
    refine st_v hS rfl rfl (run_fieldAddr fa25_2 hS rfl) fun a hS => st_v hS rfl rfl (run_load_one (i := 0) Tryz.isAgg23 hS rfl rfl rfl) fun a hS => st_v hS rfl rfl (run_move hS rfl) fun a hS => ?_
    obtain ⟨ad0, s0, hA0, hL0, hR0⟩ := sl_rowB ((fun W hC => (Ht W hC).2.2) _ (Below.refl _ _)) (i := ((i : Nat) : Int)) (j := i) (by omega) (by omega)
    refine st_v hS rfl rfl (run_indexAddr Tryz.underlying23 Tryz.sizeOf22 hS rfl rfl hA0 (by omega) (by omega)) fun a hS => st_v hS rfl rfl (run_load_cell Tryz.isAgg22 hS rfl (hL0 _ hS.below)) fun a hS => st_v hS rfl rfl (run_move hS rfl) fun a hS => ?_
    obtain ⟨ad1, hA1, hL1⟩ := sl_int hR0 (Below.refl _ _) (i := ((k : Nat) : Int)) (j := k) (by omega) (by omega)
    refine st_v hS rfl rfl (run_indexAddr Tryz.underlying22 Tryz.sizeOf3 hS rfl rfl hA1 (by omega) (by omega)) fun a hS => st_v hS rfl rfl (run_load_cell Tryz.isAgg3 hS rfl (hL1 _ hS.below)) fun a hS => st_v hS rfl rfl (run_move hS rfl) fun a hS => st_v hS rfl rfl (run_move hS rfl) fun a hS => st_call (ref02_from) Tryz.call174 hS rfl rfl rfl fun v W a hR hB hlt hS => ?_
    subst hR
    refine st_v hS rfl rfl (run_not hS rfl) fun a hS => wl_nil ?_
    refine st_cond hS rfl (fun hc4 => ?_) (fun hc4 => ?_)
    ·
     try simp only [ty] at hc4
     refine wpIn_seq ?_
     refine wpIn_region_lit ?_
     refine st_v hS rfl rfl (run_assign hS rfl) fun a hS => wl_nil ?_
     refine wpIn_ret ?_
     repeat (first | refine q_ret ?_ | refine q_block_ret ?_)
     refine hS.done (res1 (fn := Tryz.f172) (r1 := .tmp 6) rfl (rv_tmp hS rfl)) ?_
     have h2 : inAll t lo hi = false := inAll_bad (t := t) (i := i) (k := k) (by omega) (by omega) (by simpa using hc4)
     refine vb ?_; simp [filled, h2]
    ·
     try simp only [ty] at hc4
     refine wpIn_skip ?_
     refine wpIn_region_lit ?_
     refine st_v hS rfl rfl (run_move hS rfl) fun a hS => st_v hS rfl rfl (run_add (t := ((k + 1 : Nat) : Int)) hS rfl rfl (by omega) (by omega) (by omega)) fun a hS => st_v hS rfl rfl (run_assign hS rfl) fun a hS => wl_nil ?_
     refine ⟨k + 1, ⟨⟨by omega, fun j hj => ?_⟩, by omega⟩, (hS.sub (Sub.cons rfl (Sub.cons rfl (Sub.cons rfl (Sub.cons rfl (Sub.cons rfl (Sub.cons rfl Sub.nil)))))))⟩
     by_cases e : j = k
     · subst e; simpa using hc4
     · exact hgk j (by omega)
   ·
    try simp only [ty] at hc3
    refine wpIn_exit ?_
    refine wpIn_region_lit ?_
    refine st_v hS rfl rfl (run_move hS rfl) fun a hS => st_v hS rfl rfl (run_add (t := ((i + 1 : Nat) : Int)) hS rfl rfl (by omega) (by omega) (by omega)) fun a hS => st_v hS rfl rfl (run_assign hS rfl) fun a hS => wl_nil ?_
    refine ⟨i + 1, ⟨⟨by omega, fun j k hj hk => ?_⟩, by omega⟩, (hS.sub (Sub.cons rfl (Sub.cons rfl (Sub.cons rfl (Sub.cons rfl (Sub.cons rfl Sub.nil))))))⟩
    by_cases e : j = i
    · subst e; exact hgk k (by omega)
    · exact hgi j k (by omega) hk
  ·
   try simp only [ty] at hc2
   refine wpIn_exit ?_
   refine wpIn_seq ?_
   refine wpIn_region_lit ?_
   refine st_v hS rfl rfl (run_assign hS rfl) fun a hS => wl_nil ?_
   refine wpIn_ret ?_
   repeat (first | refine q_ret ?_ | refine q_block_ret ?_)
   refine hS.done (res1 (fn := Tryz.f172) (r1 := .tmp 6) rfl (rv_tmp hS rfl)) ?_
   have h2 : inAll t lo hi = true := inAll_good fun j k hj hk => hgi j k (by omega) (by have := hrows j hj; omega)
   refine vb ?_; simp [filled, hok, h2]


set_option maxHeartbeats 4000000 in
set_option maxRecDepth 100000 in
theorem ref02_Check  (Vr : RV) (r : Rot) {w : World} {Fr : Nat → Prop} (hr : RotR Fr w Vr r)  : Ret Tryz.prog 99 [.agg (rotC Vr r).toArray] w (fun v _ => v = .int .i64 (checkRot r)) := by
 refine ret_start (n := 114) Tryz.func99 rfl rfl rfl (fun a hS => ?_)
 have Hr : ∀ W, Below w.heap.size w W → RotR Fr W Vr r := fun W hb => hr.move (keep_of hb)
 refine wpIn_seq ?_
 refine wpIn_region_lit ?_
 refine st_box_agg hS rfl rfl rfl fun W a b0 hS => st_v hS rfl rfl (run_assign hS rfl) fun a hS => wl_nil ?_
 refine wpIn_seq ?_
 refine wpIn_seq ?_
 refine wpIn_region_lit ?_
 refine st_v hS rfl rfl (run_fieldAddr fa27_0 hS rfl) fun a hS => st_v hS rfl rfl (run_load_agg (i := 0) (vs := [_, _, _]) Tryz.isAgg25 Tryz.sizeOf25 hS rfl rfl rfl ⟨rfl, rfl, rfl, trivial⟩) fun a hS => st_call (ref02_filled Vr.hover r.hover ((fun W hC => (Hr W hC).hover) _ hS.below)) Tryz.call172 hS rfl rfl rfl fun v W a hR hB hlt hS => ?_
 subst hR
 refine st_v hS rfl rfl (run_not hS rfl) fun a hS => st_v hS rfl rfl (run_move hS rfl) fun a hS => ?_
 refine st_split (d := 9) hS rfl (fun hc1 hS => ?_) (fun hc1 hS => ?_)
 ·
  try simp only [ty] at hc1
  refine st_skip hS (hS.unwanted rfl rfl rfl rfl) rfl fun a hS => st_skip hS (hS.unwanted rfl rfl rfl rfl) rfl fun a hS => st_skip hS (hS.unwanted rfl rfl rfl rfl) rfl fun a hS => st_skip hS (hS.unwanted rfl rfl rfl rfl) rfl fun a hS => st_v hS rfl rfl (run_pick_t hS rfl rfl) fun a hS => st_v hS rfl rfl (run_move hS rfl) fun a hS => st_skip hS (hS.unwanted rfl rfl rfl rfl) rfl fun a hS => st_skip hS (hS.unwanted rfl rfl rfl rfl) rfl fun a hS => st_skip hS (hS.unwanted rfl rfl rfl rfl) rfl fun a hS => st_skip hS (hS.unwanted rfl rfl rfl rfl) rfl fun a hS => st_v hS rfl rfl (run_pick_t hS rfl rfl) fun a hS => st_v hS rfl rfl (run_move hS rfl) fun a hS => st_skip hS (hS.unwanted rfl rfl rfl rfl) rfl fun a hS => st_skip hS (hS.unwanted rfl rfl rfl rfl) rfl fun a hS => st_skip hS (hS.unwanted rfl rfl rfl rfl) rfl fun a hS => st_skip hS (hS.unwanted rfl rfl rfl rfl) rfl fun a hS => st_v hS rfl rfl (run_pick_t hS rfl rfl) fun a hS => wl_nil ?_
  refine st_cond_t hS rfl ?_
  refine wpIn_seq ?_
  refine wpIn_region_lit ?_
  refine st_v hS rfl rfl (run_assign hS rfl) fun a hS => wl_nil ?_
  refine wpIn_ret ?_
  repeat (first | refine q_ret ?_ | refine q_block_ret ?_)
  refine hS.done (res1 (fn := Tryz.f99) (r1 := .tmp 2) rfl (rv_tmp hS rfl)) ?_
  have h : rotOk r = false := by rw [rotOk_eq]; simp [limsOk, hc1]
  rw [checkRot, h]; rfl
 ·
  try simp only [ty] at hc1
  refine st_v hS (hS.wanted rfl rfl rfl) rfl (run_fieldAddr fa27_1 hS rfl) fun a hS => st_v hS (hS.wanted rfl rfl rfl) rfl (run_load_agg (i := 0) (vs := [_, _, _]) Tryz.isAgg25 Tryz.sizeOf25 hS rfl rfl rfl ⟨rfl, rfl, rfl, trivial⟩) fun a hS => st_call (ref02_filled Vr.ground r.ground ((fun W hC => (Hr W hC).ground) _ hS.below)) Tryz.call172 hS (hS.wanted rfl rfl rfl) rfl rfl fun v W a hR hB hlt hS => ?_
  subst hR
  refine st_v hS (hS.wanted rfl rfl rfl) rfl (run_not hS rfl) fun a hS => st_v hS rfl rfl (run_pick_f hS rfl rfl) fun a hS => st_v hS rfl rfl (run_move hS rfl) fun a hS => ?_
  refine st_split (d := 15) hS rfl (fun hc2 hS => ?_) (fun hc2 hS => ?_)
  ·
   try simp only [ty] at hc2
   refine st_skip hS (hS.unwanted rfl rfl rfl rfl) rfl fun a hS => st_skip hS (hS.unwanted rfl rfl rfl rfl) rfl fun a hS => st_skip hS (hS.unwanted rfl rfl rfl rfl) rfl fun a hS => st_skip hS (hS.unwanted rfl rfl rfl rfl) rfl fun a hS => st_v hS rfl rfl (run_pick_t hS rfl rfl) fun a hS => st_v hS rfl rfl (run_move hS rfl) fun a hS => st_skip hS (hS.unwanted rfl rfl rfl rfl) rfl fun a hS => st_skip hS (hS.unwanted rfl rfl rfl rfl) rfl fun a hS => st_skip hS (hS.unwanted rfl rfl rfl rfl) rfl fun a hS => st_skip hS (hS.unwanted rfl rfl rfl rfl) rfl fun a hS => st_v hS rfl rfl (run_pick_t hS rfl rfl) fun a hS => wl_nil ?_
   refine st_cond_t hS rfl ?_
   refine wpIn_seq ?_
   refine wpIn_region_lit ?_
   refine st_v hS rfl rfl (run_assign hS rfl) fun a hS => wl_nil ?_
   refine wpIn_ret ?_
   repeat (first | refine q_ret ?_ | refine q_block_ret ?_)
   refine hS.done (res1 (fn := Tryz.f99) (r1 := .tmp 2) rfl (rv_tmp hS rfl)) ?_
   have h : rotOk r = false := by rw [rotOk_eq]; simp [limsOk, hc1, hc2]
   rw [checkRot, h]; rfl
  ·
   try simp only [ty] at hc2
   refine st_v hS (hS.wanted rfl rfl rfl) rfl (run_fieldAddr fa27_2 hS rfl) fun a hS => st_v hS (hS.wanted rfl rfl rfl) rfl (run_load_agg (i := 0) (vs := [_, _, _]) Tryz.isAgg25 Tryz.sizeOf25 hS rfl rfl rfl ⟨rfl, rfl, rfl, trivial⟩) fun a hS => st_call (ref02_filled Vr.level r.level ((fun W hC => (Hr W hC).level) _ hS.below)) Tryz.call172 hS (hS.wanted rfl rfl rfl) rfl rfl fun v W a hR hB hlt hS => ?_
   subst hR
   refine st_v hS (hS.wanted rfl rfl rfl) rfl (run_not hS rfl) fun a hS => st_v hS rfl rfl (run_pick_f hS rfl rfl) fun a hS => st_v hS rfl rfl (run_move hS rfl) fun a hS => ?_
   refine st_split (d := 21) hS rfl (fun hc3 hS => ?_) (fun hc3 hS => ?_)
   ·
    try simp only [ty] at hc3
    refine st_skip hS (hS.unwanted rfl rfl rfl rfl) rfl fun a hS => st_skip hS (hS.unwanted rfl rfl rfl rfl) rfl fun a hS => st_skip hS (hS.unwanted rfl rfl rfl rfl) rfl fun a hS => st_skip hS (hS.unwanted rfl rfl rfl rfl) rfl fun a hS => st_v hS rfl rfl (run_pick_t hS rfl rfl) fun a hS => wl_nil ?_
    refine st_cond_t hS rfl ?_
    refine wpIn_seq ?_
    refine wpIn_region_lit ?_
    refine st_v hS rfl rfl (run_assign hS rfl) fun a hS => wl_nil ?_
    refine wpIn_ret ?_
    repeat (first | refine q_ret ?_ | refine q_block_ret ?_)
    refine hS.done (res1 (fn := Tryz.f99) (r1 := .tmp 2) rfl (rv_tmp hS rfl)) ?_
    have h : rotOk r = false := by rw [rotOk_eq]; simp [limsOk, hc1, hc2, hc3]
    rw [checkRot, h]; rfl
   ·
    try simp only [ty] at hc3
    refine st_v hS (hS.wanted rfl rfl rfl) rfl (run_fieldAddr fa27_3 hS rfl) fun a hS => st_v hS (hS.wanted rfl rfl rfl) rfl (run_load_agg (i := 0) (vs := [_, _, _]) Tryz.isAgg25 Tryz.sizeOf25 hS rfl rfl rfl ⟨rfl, rfl, rfl, trivial⟩) fun a hS => st_call (ref02_filled Vr.power r.power ((fun W hC => (Hr W hC).power) _ hS.below)) Tryz.call172 hS (hS.wanted rfl rfl rfl) rfl rfl fun v W a hR hB hlt hS => ?_
    subst hR
    refine st_v hS (hS.wanted rfl rfl rfl) rfl (run_not hS rfl) fun a hS => st_v hS rfl rfl (run_pick_f hS rfl rfl) fun a hS => wl_nil ?_
    refine st_cond hS rfl (fun hc4 => ?_) (fun hc4 => ?_)
    ·
     try simp only [ty] at hc4
     refine wpIn_seq ?_
     refine wpIn_region_lit ?_
     refine st_v hS rfl rfl (run_assign hS rfl) fun a hS => wl_nil ?_
     refine wpIn_ret ?_
     repeat (first | refine q_ret ?_ | refine q_block_ret ?_)
     refine hS.done (res1 (fn := Tryz.f99) (r1 := .tmp 2) rfl (rv_tmp hS rfl)) ?_
     have h : rotOk r = false := by rw [rotOk_eq]; simp [limsOk, hc1, hc2, hc3, hc4]
     rw [checkRot, h]; rfl
    ·
     try simp only [ty] at hc4
     refine wpIn_skip ?_
     refine wpIn_seq ?_
     refine wpIn_seq ?_
     refine wpIn_region_lit ?_
     refine st_v hS rfl rfl (run_fieldAddr fa27_4 hS rfl) fun a hS => st_v hS rfl rfl (run_load_agg (i := 0) (vs := [_, _, _]) Tryz.isAgg25 Tryz.sizeOf25 hS rfl rfl rfl ⟨rfl, rfl, rfl, trivial⟩) fun a hS => st_call (ref02_filled Vr.never r.never ((fun W hC => (Hr W hC).never) _ hS.below)) Tryz.call172 hS rfl rfl rfl fun v W a hR hB hlt hS => ?_
     subst hR
     refine st_v hS rfl rfl (run_not hS rfl) fun a hS => st_v hS rfl rfl (run_move hS rfl) fun a hS => ?_
     refine st_split (d := 31) hS rfl (fun hc5 hS => ?_) (fun hc5 hS => ?_)
     ·
      try simp only [ty] at hc5
      refine st_skip hS (hS.unwanted rfl rfl rfl rfl) rfl fun a hS => st_skip hS (hS.unwanted rfl rfl rfl rfl) rfl fun a hS => st_skip hS (hS.unwanted rfl rfl rfl rfl) rfl fun a hS => st_skip hS (hS.unwanted rfl rfl rfl rfl) rfl fun a hS => st_v hS rfl rfl (run_pick_t hS rfl rfl) fun a hS => st_v hS rfl rfl (run_move hS rfl) fun a hS => st_skip hS (hS.unwanted rfl rfl rfl rfl) rfl fun a hS => st_skip hS (hS.unwanted rfl rfl rfl rfl) rfl fun a hS => st_skip hS (hS.unwanted rfl rfl rfl rfl) rfl fun a hS => st_skip hS (hS.unwanted rfl rfl rfl rfl) rfl fun a hS => st_v hS rfl rfl (run_pick_t hS rfl rfl) fun a hS => st_v hS rfl rfl (run_move hS rfl) fun a hS => st_skip hS (hS.unwanted rfl rfl rfl rfl) rfl fun a hS => st_skip hS (hS.unwanted rfl rfl rfl rfl) rfl fun a hS => st_skip hS (hS.unwanted rfl rfl rfl rfl) rfl fun a hS => st_skip hS (hS.unwanted rfl rfl rfl rfl) rfl fun a hS => st_v hS rfl rfl (run_pick_t hS rfl rfl) fun a hS => wl_nil ?_
      have hS := hS.sub (κ' := [(0, _), (1, _), (2, _), (48, _)]) (Sub.cons rfl (Sub.cons rfl (Sub.cons rfl (Sub.cons rfl Sub.nil))))
      refine st_cond_t hS rfl ?_
      refine wpIn_seq ?_
      refine wpIn_region_lit ?_
      refine st_v hS rfl rfl (run_assign hS rfl) fun a hS => wl_nil ?_
      refine wpIn_ret ?_
      repeat (first | refine q_ret ?_ | refine q_block_ret ?_)
      refine hS.done (res1 (fn := Tryz.f99) (r1 := .tmp 2) rfl (rv_tmp hS rfl)) ?_
      have h : rotOk r = false := by rw [rotOk_eq]; simp [limsOk, hc1, hc2, hc3, hc4, hc5]
      rw [checkRot, h]; rfl
     ·
      try simp only [ty] at hc5
      refine st_v hS (hS.wanted rfl rfl rfl) rfl (run_fieldAddr fa27_5 hS rfl) fun a hS => st_v hS (hS.wanted rfl rfl rfl) rfl (run_load_agg (i := 0) (vs := [_, _, _]) Tryz.isAgg25 Tryz.sizeOf25 hS rfl rfl rfl ⟨rfl, rfl, rfl, trivial⟩) fun a hS => st_call (ref02_filled Vr.low r.low ((fun W hC => (Hr W hC).low) _ hS.below)) Tryz.call172 hS (hS.wanted rfl rfl rfl) rfl rfl fun v W a hR hB hlt hS => ?_
      subst hR
      refine st_v hS (hS.wanted rfl rfl rfl) rfl (run_not hS rfl) fun a hS => st_v hS rfl rfl (run_pick_f hS rfl rfl) fun a hS => st_v hS rfl rfl (run_move hS rfl) fun a hS => ?_
      refine st_split (d := 37) hS rfl (fun hc6 hS => ?_) (fun hc6 hS => ?_)
      ·
       try simp only [ty] at hc6
       refine st_skip hS (hS.unwanted rfl rfl rfl rfl) rfl fun a hS => st_skip hS (hS.unwanted rfl rfl rfl rfl) rfl fun a hS => st_skip hS (hS.unwanted rfl rfl rfl rfl) rfl fun a hS => st_skip hS (hS.unwanted rfl rfl rfl rfl) rfl fun a hS => st_v hS rfl rfl (run_pick_t hS rfl rfl) fun a hS => st_v hS rfl rfl (run_move hS rfl) fun a hS => st_skip hS (hS.unwanted rfl rfl rfl rfl) rfl fun a hS => st_skip hS (hS.unwanted rfl rfl rfl rfl) rfl fun a hS => st_skip hS (hS.unwanted rfl rfl rfl rfl) rfl fun a hS => st_skip hS (hS.unwanted rfl rfl rfl rfl) rfl fun a hS => st_v hS rfl rfl (run_pick_t hS rfl rfl) fun a hS => wl_nil ?_
       have hS := hS.sub (κ' := [(0, _), (1, _), (2, _), (48, _)]) (Sub.cons rfl (Sub.cons rfl (Sub.cons rfl (Sub.cons rfl Sub.nil))))
       refine st_cond_t hS rfl ?_
       refine wpIn_seq ?_
       refine wpIn_region_lit ?_
       refine st_v hS rfl rfl (run_assign hS rfl) fun a hS => wl_nil ?_
       refine wpIn_ret ?_
       repeat (first | refine q_ret ?_ | refine q_block_ret ?_)
       refine hS.done (res1 (fn := Tryz.f99) (r1 := .tmp 2) rfl (rv_tmp hS rfl)) ?_
       have h : rotOk r = false := by rw [rotOk_eq]; simp [limsOk, hc1, hc2, hc3, hc4, hc5, hc6]
       rw [checkRot, h]; rfl
      ·
       try simp only [ty] at hc6
       refine st_v hS (hS.wanted rfl rfl rfl) rfl (run_fieldAddr fa27_6 hS rfl) fun a hS => st_v hS (hS.wanted rfl rfl rfl) rfl (run_load_agg (i := 0) (vs := [_, _, _]) Tryz.isAgg25 Tryz.sizeOf25 hS rfl rfl rfl ⟨rfl, rfl, rfl, trivial⟩) fun a hS => st_call (ref02_filled Vr.high r.high ((fun W hC => (Hr W hC).high) _ hS.below)) Tryz.call172 hS (hS.wanted rfl rfl rfl) rfl rfl fun v W a hR hB hlt hS => ?_
       subst hR
       refine st_v hS (hS.wanted rfl rfl rfl) rfl (run_not hS rfl) fun a hS => st_v hS rfl rfl (run_pick_f hS rfl rfl) fun a hS => st_v hS rfl rfl (run_move hS rfl) fun a hS => ?_
       refine st_split (d := 43) hS rfl (fun hc7 hS => ?_) (fun hc7 hS => ?_)
       ·
        try simp only [ty] at hc7
        refine st_skip hS (hS.unwanted rfl rfl rfl rfl) rfl fun a hS => st_skip hS (hS.unwanted rfl rfl rfl rfl) rfl fun a hS => st_skip hS (hS.unwanted rfl rfl rfl rfl) rfl fun a hS => st_skip hS (hS.unwanted rfl rfl rfl rfl) rfl fun a hS => st_v hS rfl rfl (run_pick_t hS rfl rfl) fun a hS => wl_nil ?_
        have hS := hS.sub (κ' := [(0, _), (1, _), (2, _), (48, _)]) (Sub.cons rfl (Sub.cons rfl (Sub.cons rfl (Sub.cons rfl Sub.nil))))
        refine st_cond_t hS rfl ?_
        refine wpIn_seq ?_
        refine wpIn_region_lit ?_
        refine st_v hS rfl rfl (run_assign hS rfl) fun a hS => wl_nil ?_
        refine wpIn_ret ?_
        repeat (first | refine q_ret ?_ | refine q_block_ret ?_)
        refine hS.done (res1 (fn := Tryz.f99) (r1 := .tmp 2) rfl (rv_tmp hS rfl)) ?_
        have h : rotOk r = false := by rw [rotOk_eq]; simp [limsOk, hc1, hc2, hc3, hc4, hc5, hc6, hc7]
        rw [checkRot, h]; rfl
       ·
        try simp only [ty] at hc7
        refine st_v hS (hS.wanted rfl rfl rfl) rfl (run_fieldAddr fa27_7 hS rfl) fun a hS => st_v hS (hS.wanted rfl rfl rfl) rfl (run_load_agg (i := 0) (vs := [_, _, _]) Tryz.isAgg25 Tryz.sizeOf25 hS rfl rfl rfl ⟨rfl, rfl, rfl, trivial⟩) fun a hS => st_call (ref02_filled Vr.glide r.glide ((fun W hC => (Hr W hC).glide) _ hS.below)) Tryz.call172 hS (hS.wanted rfl rfl rfl) rfl rfl fun v W a hR hB hlt hS => ?_
        subst hR
        refine st_v hS (hS.wanted rfl rfl rfl) rfl (run_not hS rfl) fun a hS => st_v hS rfl rfl (run_pick_f hS rfl rfl) fun a hS => wl_nil ?_
        have hS := hS.sub (κ' := [(0, _), (1, _), (2, _), (48, _)]) (Sub.cons rfl (Sub.cons rfl (Sub.cons rfl (Sub.cons rfl Sub.nil))))
        refine st_cond hS rfl (fun hc8 => ?_) (fun hc8 => ?_)
        ·
         try simp only [ty] at hc8
         refine wpIn_seq ?_
         refine wpIn_region_lit ?_
         refine st_v hS rfl rfl (run_assign hS rfl) fun a hS => wl_nil ?_
         refine wpIn_ret ?_
         repeat (first | refine q_ret ?_ | refine q_block_ret ?_)
         refine hS.done (res1 (fn := Tryz.f99) (r1 := .tmp 2) rfl (rv_tmp hS rfl)) ?_
         have h : rotOk r = false := by rw [rotOk_eq]; simp [limsOk, hc1, hc2, hc3, hc4, hc5, hc6, hc7, hc8]
         rw [checkRot, h]; rfl
        ·
         try simp only [ty] at hc8
         refine wpIn_skip ?_
         refine wpIn_seq ?_
         refine wpIn_seq ?_
         refine wpIn_region_lit ?_
         refine st_v hS rfl rfl (run_fieldAddr fa27_5 hS rfl) fun a hS => st_v hS rfl rfl (run_fieldAddr fa25_0 hS rfl) fun a hS => st_v hS rfl rfl (run_load_one (i := 0) Tryz.isAgg22 hS rfl rfl rfl) fun a hS => st_v hS rfl rfl (run_fieldAddr fa27_6 hS rfl) fun a hS => st_v hS rfl rfl (run_fieldAddr fa25_0 hS rfl) fun a hS => st_v hS rfl rfl (run_load_one (i := 0) Tryz.isAgg22 hS rfl rfl rfl) fun a hS => st_call (ref02_same Vr.low.x r.low.X Vr.high.x r.high.X ((fun W hC => ((fun W hC => (Hr W hC).low) W hC).1) _ hS.below) ((fun W hC => ((fun W hC => (Hr W hC).high) W hC).1) _ hS.below)) Tryz.call173 hS rfl rfl rfl fun v W a hR hB hlt hS => ?_
         subst hR
         refine st_v hS rfl rfl (run_not hS rfl) fun a hS => st_v hS rfl rfl (run_move hS rfl) fun a hS => ?_
         refine st_split (d := 57) hS rfl (fun hc9 hS => ?_) (fun hc9 hS => ?_)
         ·
          try simp only [ty] at hc9
          refine st_skip hS (hS.unwanted rfl rfl rfl rfl) rfl fun a hS => st_skip hS (hS.unwanted rfl rfl rfl rfl) rfl fun a hS => st_skip hS (hS.unwanted rfl rfl rfl rfl) rfl fun a hS => st_skip hS (hS.unwanted rfl rfl rfl rfl) rfl fun a hS => st_skip hS (hS.unwanted rfl rfl rfl rfl) rfl fun a hS => st_skip hS (hS.unwanted rfl rfl rfl rfl) rfl fun a hS => st_skip hS (hS.unwanted rfl rfl rfl rfl) rfl fun a hS => st_skip hS (hS.unwanted rfl rfl rfl rfl) rfl fun a hS => st_v hS rfl rfl (run_pick_t hS rfl rfl) fun a hS => st_v hS rfl rfl (run_move hS rfl) fun a hS => st_skip hS (hS.unwanted rfl rfl rfl rfl) rfl fun a hS => st_skip hS (hS.unwanted rfl rfl rfl rfl) rfl fun a hS => st_skip hS (hS.unwanted rfl rfl rfl rfl) rfl fun a hS => st_skip hS (hS.unwanted rfl rfl rfl rfl) rfl fun a hS => st_v hS rfl rfl (run_pick_t hS rfl rfl) fun a hS => st_v hS rfl rfl (run_move hS rfl) fun a hS => st_skip hS (hS.unwanted rfl rfl rfl rfl) rfl fun a hS => st_skip hS (hS.unwanted rfl rfl rfl rfl) rfl fun a hS => st_skip hS (hS.unwanted rfl rfl rfl rfl) rfl fun a hS => st_skip hS (hS.unwanted rfl rfl rfl rfl) rfl fun a hS => st_v hS rfl rfl (run_pick_t hS rfl rfl) fun a hS => wl_nil ?_
          have hS := hS.sub (κ' := [(0, _), (1, _), (2, _), (78, _)]) (Sub.cons rfl (Sub.cons rfl (Sub.cons rfl (Sub.cons rfl Sub.nil))))
          refine st_cond_t hS rfl ?_
          refine wpIn_seq ?_
          refine wpIn_region_lit ?_
          refine st_v hS rfl rfl (run_assign hS rfl) fun a hS => wl_nil ?_
          refine wpIn_ret ?_
          repeat (first | refine q_ret ?_ | refine q_block_ret ?_)
          refine hS.done (res1 (fn := Tryz.f99) (r1 := .tmp 2) rfl (rv_tmp hS rfl)) ?_
          have h : rotOk r = false := by rw [rotOk_eq]; simp [limsOk, hc1, hc2, hc3, hc4, hc5, hc6, hc7, hc8, hc9]
          rw [checkRot, h]; rfl
         ·
          try simp only [ty] at hc9
          refine st_v hS (hS.wanted rfl rfl rfl) rfl (run_fieldAddr fa27_5 hS rfl) fun a hS => st_v hS (hS.wanted rfl rfl rfl) rfl (run_fieldAddr fa25_1 hS rfl) fun a hS => st_v hS (hS.wanted rfl rfl rfl) rfl (run_load_one (i := 0) Tryz.isAgg22 hS rfl rfl rfl) fun a hS => st_v hS (hS.wanted rfl rfl rfl) rfl (run_fieldAddr fa27_6 hS rfl) fun a hS => st_v hS (hS.wanted rfl rfl rfl) rfl (run_fieldAddr fa25_1 hS rfl) fun a hS => st_v hS (hS.wanted rfl rfl rfl) rfl (run_load_one (i := 0) Tryz.isAgg22 hS rfl rfl rfl) fun a hS => st_call (ref02_same Vr.low.y r.low.Y Vr.high.y r.high.Y ((fun W hC => ((fun W hC => (Hr W hC).low) W hC).2.1) _ hS.below) ((fun W hC => ((fun W hC => (Hr W hC).high) W hC).2.1) _ hS.below)) Tryz.call173 hS (hS.wanted rfl rfl rfl) rfl rfl fun v W a hR hB hlt hS => ?_
          subst hR
          refine st_v hS (hS.wanted rfl rfl rfl) rfl (run_not hS rfl) fun a hS => st_v hS rfl rfl (run_pick_f hS rfl rfl) fun a hS => st_v hS rfl rfl (run_move hS rfl) fun a hS => ?_
          refine st_split (d := 67) hS rfl (fun hc10 hS => ?_) (fun hc10 hS => ?_)
          ·
           try simp only [ty] at hc10
           refine st_skip hS (hS.unwanted rfl rfl rfl rfl) rfl fun a hS => st_skip hS (hS.unwanted rfl rfl rfl rfl) rfl fun a hS => st_skip hS (hS.unwanted rfl rfl rfl rfl) rfl fun a hS => st_skip hS (hS.unwanted rfl rfl rfl rfl) rfl fun a hS => st_v hS rfl rfl (run_pick_t hS rfl rfl) fun a hS => st_v hS rfl rfl (run_move hS rfl) fun a hS => st_skip hS (hS.unwanted rfl rfl rfl rfl) rfl fun a hS => st_skip hS (hS.unwanted rfl rfl rfl rfl) rfl fun a hS => st_skip hS (hS.unwanted rfl rfl rfl rfl) rfl fun a hS => st_skip hS (hS.unwanted rfl rfl rfl rfl) rfl fun a hS => st_v hS rfl rfl (run_pick_t hS rfl rfl) fun a hS => wl_nil ?_
           have hS := hS.sub (κ' := [(0, _), (1, _), (2, _), (78, _)]) (Sub.cons rfl (Sub.cons rfl (Sub.cons rfl (Sub.cons rfl Sub.nil))))
           refine st_cond_t hS rfl ?_
           refine wpIn_seq ?_
           refine wpIn_region_lit ?_
           refine st_v hS rfl rfl (run_assign hS rfl) fun a hS => wl_nil ?_
           refine wpIn_ret ?_
           repeat (first | refine q_ret ?_ | refine q_block_ret ?_)
           refine hS.done (res1 (fn := Tryz.f99) (r1 := .tmp 2) rfl (rv_tmp hS rfl)) ?_
           have h : rotOk r = false := by rw [rotOk_eq]; simp [limsOk, hc1, hc2, hc3, hc4, hc5, hc6, hc7, hc8, hc9, hc10]
           rw [checkRot, h]; rfl
          ·
           try simp only [ty] at hc10
           refine st_v hS (hS.wanted rfl rfl rfl) rfl (run_fieldAddr fa27_8 hS rfl) fun a hS => st_v hS (hS.wanted rfl rfl rfl) rfl (run_load_one (i := 0) Tryz.isAgg3 hS rfl rfl rfl) fun a hS => st_call (ref02_from) Tryz.call174 hS (hS.wanted rfl rfl rfl) rfl rfl fun v W a hR hB hlt hS => ?_
           subst hR
           refine st_v hS (hS.wanted rfl rfl rfl) rfl (run_not hS rfl) fun a hS => st_v hS rfl rfl (run_pick_f hS rfl rfl) fun a hS => st_v hS rfl rfl (run_move hS rfl) fun a hS => ?_
           refine st_split (d := 73) hS rfl (fun hc11 hS => ?_) (fun hc11 hS => ?_)
           ·
            try simp only [ty] at hc11
            refine st_skip hS (hS.unwanted rfl rfl rfl rfl) rfl fun a hS => st_skip hS (hS.unwanted rfl rfl rfl rfl) rfl fun a hS => st_skip hS (hS.unwanted rfl rfl rfl rfl) rfl fun a hS => st_skip hS (hS.unwanted rfl rfl rfl rfl) rfl fun a hS => st_v hS rfl rfl (run_pick_t hS rfl rfl) fun a hS => wl_nil ?_
            have hS := hS.sub (κ' := [(0, _), (1, _), (2, _), (78, _)]) (Sub.cons rfl (Sub.cons rfl (Sub.cons rfl (Sub.cons rfl Sub.nil))))
            refine st_cond_t hS rfl ?_
            refine wpIn_seq ?_
            refine wpIn_region_lit ?_
            refine st_v hS rfl rfl (run_assign hS rfl) fun a hS => wl_nil ?_
            refine wpIn_ret ?_
            repeat (first | refine q_ret ?_ | refine q_block_ret ?_)
            refine hS.done (res1 (fn := Tryz.f99) (r1 := .tmp 2) rfl (rv_tmp hS rfl)) ?_
            have h : rotOk r = false := by rw [rotOk_eq]; simp [limsOk, hc1, hc2, hc3, hc4, hc5, hc6, hc7, hc8, hc9, hc10, hc11]
            rw [checkRot, h]; rfl
           ·
            try simp only [ty] at hc11
            refine st_v hS (hS.wanted rfl rfl rfl) rfl (run_fieldAddr fa27_9 hS rfl) fun a hS => st_v hS (hS.wanted rfl rfl rfl) rfl (run_load_one (i := 0) Tryz.isAgg3 hS rfl rfl rfl) fun a hS => st_call (ref02_from) Tryz.call174 hS (hS.wanted rfl rfl rfl) rfl rfl fun v W a hR hB hlt hS => ?_
            subst hR
            refine st_v hS (hS.wanted rfl rfl rfl) rfl (run_not hS rfl) fun a hS => st_v hS rfl rfl (run_pick_f hS rfl rfl) fun a hS => wl_nil ?_
            have hS := hS.sub (κ' := [(0, _), (1, _), (2, _), (78, _)]) (Sub.cons rfl (Sub.cons rfl (Sub.cons rfl (Sub.cons rfl Sub.nil))))
            refine st_cond hS rfl (fun hc12 => ?_) (fun hc12 => ?_)
            ·
             try simp only [ty] at hc12
             refine wpIn_seq ?_
             refine wpIn_region_lit ?_
             refine st_v hS rfl rfl (run_assign hS rfl) fun a hS => wl_nil ?_
             refine wpIn_ret ?_
             repeat (first | refine q_ret ?_ | refine q_block_ret ?_)
             refine hS.done (res1 (fn := Tryz.f99) (r1 := .tmp 2) rfl (rv_tmp hS rfl)) ?_
             have h : rotOk r = false := by rw [rotOk_eq]; simp [limsOk, hc1, hc2, hc3, hc4, hc5, hc6, hc7, hc8, hc9, hc10, hc11, hc12]
             rw [checkRot, h]; rfl
            ·
             try simp only [ty] at hc12
             have hlims : limsOk r = true := by simp [limsOk, hc1, hc2, hc3, hc4, hc5, hc6, hc7, hc8, hc9, hc10, hc11, hc12]
             have hlh := lims_low hlims
             obtain ⟨hlX, hlY, hlV, hlR⟩ := tab_axes hlh.1; obtain ⟨hhX, hhY, hhV, hhR⟩ := tab_axes hlh.2
             have hsX : r.low.X = r.high.X := by first | assumption | simp_all
             have hsY : r.low.Y = r.high.Y := by first | assumption | simp_all
             have hcl : within r.climb 1 1000 = true := by first | assumption | simp_all
             have hbu : within r.burn 1 1000 = true := by first | assumption | simp_all
             have hl12 := hlX.most; have hl13 := hlY.most
             have hsXl : r.low.X.length = r.high.X.length := by rw [hsX]
             have hsYl : r.low.Y.length = r.high.Y.length := by rw [hsY]
             have hlowR : ∀ i, i < r.low.V.length → (rowOf r.low.V i).length = r.low.Y.length := fun i hi => (hlR _ (getD_mem hi)).1
             have hhighR : ∀ i, i < r.high.V.length → (rowOf r.high.V i).length = r.high.Y.length := fun i hi => (hhR _ (getD_mem hi)).1
             refine wpIn_skip ?_
             refine wpIn_seq ?_
             refine wpIn_seq ?_
             refine wpIn_region_lit ?_
             refine st_v hS rfl rfl (run_assign hS rfl) fun a hS => wl_nil ?_
             refine wpIn_block ?_
             refine st_loop2 (α := Nat) (fun i => [(3, .int .i64 (((i : Nat) : Int)))]) [(0, _), (1, _)] (fun l _ => l) (fun i => i ≤ r.low.X.length ∧ ∀ j k, j < i → k < r.low.Y.length → vat r.low j k ≤ vat r.high j k) (fun i => r.low.X.length - i) (0) hS (Sub.cons rfl (Sub.cons rfl (Sub.cons rfl Sub.nil))) rfl (⟨Nat.zero_le _, fun j k hj => absurd hj (Nat.not_lt_zero j)⟩) (fun i W a hφ hS => ?_)
             dsimp only [setB, List.cons_append, List.nil_append, List.take] at hS
             obtain ⟨hi, hgi⟩ := hφ
             refine wpIn_seq ?_
             refine wpIn_seq ?_
             refine wpIn_region_lit ?_
             refine st_v hS rfl rfl (run_move hS rfl) fun a hS => st_v hS rfl rfl (run_fieldAddr fa27_5 hS rfl) fun a hS => st_v hS rfl rfl (run_fieldAddr fa25_0 hS rfl) fun a hS => st_v hS rfl rfl (run_load_one (i := 0) Tryz.isAgg22 hS rfl rfl rfl) fun a hS => st_v hS rfl rfl (run_len_slice Tryz.underlying22 hS rfl) fun a hS => st_v hS rfl rfl (run_bin hS rfl rfl rfl) fun a hS => wl_nil ?_
             refine st_cond hS rfl (fun hc13 => ?_) (fun hc13 => ?_)
             ·
              try simp only [ty] at hc13
              refine wpIn_skip ?_
              refine wpIn_seq ?_
              refine wpIn_block ?_
              refine wpIn_seq ?_
              refine wpIn_region_lit ?_
              refine st_v hS rfl rfl (run_assign hS rfl) fun a hS => wl_nil ?_
              refine wpIn_block ?_
              refine st_loop2 (α := Nat) (fun k => [(4, .int .i64 (((k : Nat) : Int)))]) [(0, _), (1, _), (3, _)] (fun l _ => l) (fun k => k ≤ r.low.Y.length ∧ ∀ j, j < k → vat r.low i j ≤ vat r.high i j) (fun k => r.low.Y.length - k) (0) hS (Sub.cons rfl (Sub.cons rfl (Sub.cons rfl (Sub.cons rfl Sub.nil)))) rfl (⟨Nat.zero_le _, fun j hj => absurd hj (Nat.not_lt_zero j)⟩) (fun k W a hφ hS => ?_)
              dsimp only [setB, List.cons_append, List.nil_append, List.take] at hS
              obtain ⟨hk, hgk⟩ := hφ
              have hll := hlowR i (by omega); have hhl := hhighR i (by omega)
              refine wpIn_seq ?_
              refine wpIn_seq ?_
              refine wpIn_region_lit ?_
              refine st_v hS rfl rfl (run_move hS rfl) fun a hS => st_v hS rfl rfl (run_fieldAddr fa27_5 hS rfl) fun a hS => st_v hS rfl rfl (run_fieldAddr fa25_1 hS rfl) fun a hS => st_v hS rfl rfl (run_load_one (i := 0) Tryz.isAgg22 hS rfl rfl rfl) fun a hS => st_v hS rfl rfl (run_len_slice Tryz.underlying22 hS rfl) fun a hS => st_v hS rfl rfl (run_bin hS rfl rfl rfl) fun a hS => wl_nil ?_
              refine st_cond hS rfl (fun hc14 => ?_) (fun hc14 => ?_)
              ·
               try simp only [ty] at hc14
               refine wpIn_skip ?_
               refine wpIn_seq ?_
               refine wpIn_block ?_
               refine wpIn_seq ?_
               have hlt0 := fun B hB => hS.lt (b := B) hB
               refine st_mix (k := 19) (by kernel_rfl) (by kernel_rfl) hS rfl rfl ?_
               refine mx_v (fun a W hS hB => run_fieldAddr fa27_5 hS rfl) <| mx_v (fun a W hS hB => run_fieldAddr fa25_2 hS rfl) <| mx_v (fun a W hS hB => run_load_one (i := 0) Tryz.isAgg23 hS rfl rfl rfl) <| mx_v (fun a W hS hB => run_move hS rfl) <| ?_
               obtain ⟨ad0, s0, hA0, hL0, hR0⟩ := sl_rowB ((fun W hC => ((fun W hC => (Hr W hC).low) W hC).2.2) _ (Below.refl _ _)) (i := ((i : Nat) : Int)) (j := i) (by omega) (by omega)
               refine mx_v (fun a W hS hB => run_indexAddr Tryz.underlying23 Tryz.sizeOf22 hS rfl rfl hA0 (by omega) (by omega)) <| mx_v (fun a W hS hB => run_load_cell Tryz.isAgg22 hS rfl (hL0 _ hS.below)) <| mx_v (fun a W hS hB => run_move hS rfl) <| ?_
               obtain ⟨ad1, hA1, hL1⟩ := sl_int hR0 (Below.refl _ _) (i := ((k : Nat) : Int)) (j := k) (by omega) (by omega)
               refine mx_v (fun a W hS hB => run_indexAddr Tryz.underlying22 Tryz.sizeOf3 hS rfl rfl hA1 (by omega) (by omega)) <| mx_v (fun a W hS hB => run_load_cell Tryz.isAgg3 hS rfl (hL1 _ hS.below)) <| mx_v (fun a W hS hB => run_fieldAddr fa27_6 hS rfl) <| mx_v (fun a W hS hB => run_fieldAddr fa25_2 hS rfl) <| mx_v (fun a W hS hB => run_load_one (i := 0) Tryz.isAgg23 hS rfl rfl rfl) <| mx_v (fun a W hS hB => run_move hS rfl) <| ?_
               obtain ⟨ad2, s2, hA2, hL2, hR2⟩ := sl_rowB ((fun W hC => ((fun W hC => (Hr W hC).high) W hC).2.2) _ (Below.refl _ _)) (i := ((i : Nat) : Int)) (j := i) (by omega) (by omega)
               refine mx_v (fun a W hS hB => run_indexAddr Tryz.underlying23 Tryz.sizeOf22 hS rfl rfl hA2 (by omega) (by omega)) <| mx_v (fun a W hS hB => run_load_cell Tryz.isAgg22 hS rfl (hL2 _ hS.below)) <| mx_v (fun a W hS hB => run_move hS rfl) <| ?_
               obtain ⟨ad3, hA3, hL3⟩ := sl_int hR2 (Below.refl _ _) (i := ((k : Nat) : Int)) (j := k) (by omega) (by omega)
               refine mx_v (fun a W hS hB => run_indexAddr Tryz.underlying22 Tryz.sizeOf3 hS rfl rfl hA3 (by omega) (by omega)) <| mx_v (fun a W hS hB => run_load_cell Tryz.isAgg3 hS rfl (hL3 _ hS.below)) <| mx_v (fun a W hS hB => run_bin hS rfl rfl rfl) <| ?_
               refine mx_end fun a W bs us hS hB hL => ?_
               dsimp only [kall, ball, List.cons_append, List.nil_append] at hS
               refine wl_nil ?_
               have hS := hS.sub (κ' := [(0, _), (1, _), (3, _), (4, _), (113, _)]) (Sub.cons rfl (Sub.cons rfl (Sub.cons rfl (Sub.cons rfl (Sub.cons rfl Sub.nil)))))
               refine st_cond hS rfl (fun hc15 => ?_) (fun hc15 => ?_)
               ·
                try simp only [ty] at hc15
                refine wpIn_seq ?_
                refine wpIn_region_lit ?_
                refine st_v hS rfl rfl (run_assign hS rfl) fun a hS => wl_nil ?_
                refine wpIn_ret ?_
                repeat (first | refine q_ret ?_ | refine q_block_ret ?_)
                refine hS.done (res1 (fn := Tryz.f99) (r1 := .tmp 2) rfl (rv_tmp hS rfl)) ?_
                have h : notAbove r.low r.high = false := above_bad (i := i) (k := k) (by omega) (by omega) (by assumption)
                rw [checkRot, rotOk_eq, h, Bool.and_false, Bool.and_false]; rfl
               ·
                try simp only [ty] at hc15
                refine wpIn_skip ?_
                refine wpIn_region_lit ?_
                refine st_v hS rfl rfl (run_move hS rfl) fun a hS => st_v hS rfl rfl (run_add (t := ((k + 1 : Nat) : Int)) hS rfl rfl (by omega) (by omega) (by omega)) fun a hS => st_v hS rfl rfl (run_assign hS rfl) fun a hS => wl_nil ?_
                refine ⟨k + 1, ⟨⟨by omega, fun j hj => ?_⟩, by omega⟩, (hS.sub (Sub.cons rfl (Sub.cons rfl (Sub.cons rfl (Sub.cons rfl Sub.nil)))))⟩
                by_cases e : j = k
                · subst e; assumption
                · exact hgk j (by omega)
              ·
               try simp only [ty] at hc14
               refine wpIn_exit ?_
               refine wpIn_region_lit ?_
               refine st_v hS rfl rfl (run_move hS rfl) fun a hS => st_v hS rfl rfl (run_add (t := ((i + 1 : Nat) : Int)) hS rfl rfl (by omega) (by omega) (by omega)) fun a hS => st_v hS rfl rfl (run_assign hS rfl) fun a hS => wl_nil ?_
               refine ⟨i + 1, ⟨⟨by omega, fun j k hj hk => ?_⟩, by omega⟩, (hS.sub (Sub.cons rfl (Sub.cons rfl (Sub.cons rfl Sub.nil))))⟩
               by_cases e : j = i
               · subst e; exact hgk k (by omega)
               · exact hgi j k (by omega) hk
             ·
              try simp only [ty] at hc13
              refine wpIn_exit ?_
              refine wpIn_seq ?_
              refine wpIn_region_lit ?_
              refine st_v hS rfl rfl (run_assign hS rfl) fun a hS => wl_nil ?_
              refine wpIn_ret ?_
              repeat (first | refine q_ret ?_ | refine q_block_ret ?_)
              refine hS.done (res1 (fn := Tryz.f99) (r1 := .tmp 2) rfl (rv_tmp hS rfl)) ?_
              have h : notAbove r.low r.high = true := above_good fun j k hj hk => hgi j k (by omega) hk
              rw [checkRot, rotOk_eq, h, hlims]; simp [hsX, hsY, hcl, hbu]

end Go.Proofs.YtdnodlgebpnfoaaGreat
