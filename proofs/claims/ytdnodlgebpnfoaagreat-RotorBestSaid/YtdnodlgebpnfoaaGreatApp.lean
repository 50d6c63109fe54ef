/- The engine's rows of one's own that grow: append. -/
import Derived.Test.YtdnodlgebpnfoaaGreatRep
import Derived.Deep.AppendSrc
namespace Go.Proofs.YtdnodlgebpnfoaaGreat
open Go Go.RowKit Go.Shelf Sw

def AI (P : Program) (E : TypeId) (sz by_ : Nat) : Prop := ∃ i z, P.info? E = some i ∧ i.zero = some z ∧ i.size = sz ∧ i.bytes = by_ ∧ z.cells.size = sz ∧ 0 < by_
def AIb (P : Program) (E : TypeId) (sz by_ : Nat) : Bool := match P.info? E with
  | some i => (match i.zero with | some z => Nat.beq z.cells.size sz | none => false) && Nat.beq i.size sz && Nat.beq i.bytes by_ && Nat.blt 0 by_
  | none => false
theorem AI.of {P : Program} {E : TypeId} {sz by_ : Nat} (h : AIb P E sz by_ = true) : AI P E sz by_ := by
  unfold AIb at h
  cases h1 : P.info? E with
  | none => rw [h1] at h; cases h
  | some i =>
    rw [h1] at h
    cases h2 : i.zero with
    | none => simp [h2] at h
    | some z =>
      simp only [h2, Bool.and_eq_true] at h
      exact ⟨i, z, h1, h2, Nat.eq_of_beq_eq_true h.1.1.2, Nat.eq_of_beq_eq_true h.1.2, Nat.eq_of_beq_eq_true h.1.1.1, Nat.blt_eq.mp h.2⟩
/-- A row of one's own: its value, its length, its cells up to there, all its block's cells. -/
def OwnR (v : Value) (n sz : Nat) (xs cs : List Value) : Prop :=
  xs.length = n * sz ∧ ((v = .slice none 0 0 ∧ n = 0 ∧ cs = []) ∨ ∃ b cap, v = .slice (some ⟨b, 0, none⟩) n cap ∧ n ≤ cap ∧ cap ≤ maxLen ∧ cs.length = cap * sz ∧ cs.take (n * sz) = xs)
def rowB (v : Value) (cs : List Value) (T : TypeId) : List Blk := match v.ownBlock with | some b => [⟨b, cs, T⟩] | none => []
theorem rowB_some (b n c : Nat) (cs : List Value) (T : TypeId) : rowB (.slice (some ⟨b, 0, none⟩) n c) cs T = [⟨b, cs, T⟩] := rfl
theorem rowB_none (cs : List Value) (T : TypeId) : rowB (.slice none 0 0) cs T = [] := rfl
theorem OwnR.nil (sz : Nat) : OwnR (.slice none 0 0) 0 sz [] [] := ⟨by simp, .inl ⟨rfl, rfl, rfl⟩⟩
theorem OwnR.made (b k sz : Nat) (cs : List Value) (h : cs.length = k * sz) (hk : k ≤ maxLen) : OwnR (.slice (some ⟨b, 0, none⟩) k k) k sz cs cs :=
  ⟨h, .inr ⟨b, k, rfl, Nat.le_refl _, hk, h, by rw [← h]; exact List.take_length⟩⟩

section
variable {P : Program} {r : Option Nat} {m : Nat} {ops : Array Oper} {Q : Exit → Act → World → Prop} {rest : List Oper} {o : Oper}
  {ds : List Nat} {w W W' : World} {n d : Nat} {a : Act} {κ : KV} {l l1 l2 : List Blk} {Φ : World → Prop} {x y c : Operand} {v u : Value} {ty T T2 E : TypeId} {pos : String} {af : Array Edge} {g : Option (Nat × Bool)}

theorem Off.mono {l l' : List Blk} {W W' : World} (h : Off l W W') (hs : ∀ b ∈ l, b ∈ l') : Off l' W W' := ⟨h.os, h.tape, h.output, fun k hk hn => h.same k hk fun b hb => hn b (hs b hb)⟩
/-- The row has a new block. -/
theorem St.newRow {v : Value} {cs cs' : List Value} (hS : St ds w W n a κ (l ++ rowB v cs T) Φ) (N : Nat) (cap : Nat) : St ds w (W.drew.alloc (.cells cs'.toArray T)) n a κ (l ++ rowB (.slice (some ⟨W.heap.size, 0, none⟩) N cap) cs' T) Φ := by
  have hg : St ds w W.drew n a κ (l ++ rowB v cs T) Φ := hS.grow ⟨rfl, rfl, rfl, Nat.le_refl _, fun _ _ => rfl⟩
  have h1 := (hg.alloc cs' T).drop (l' := ⟨W.heap.size, cs', T⟩ :: l) (List.Sublist.cons_cons _ (List.sublist_append_left _ _))
  refine ⟨h1.size, h1.defers, h1.get, h1.below, ?_, ?_, ?_, ?_⟩
  · intro b hb
    refine h1.blk b ?_
    rcases List.mem_append.1 hb with hb | hb
    · exact List.mem_cons_of_mem _ hb
    · rw [rowB_some] at hb; exact List.mem_cons.2 (.inl (List.mem_singleton.1 hb))
  · intro b hb
    refine h1.old b ?_
    rcases List.mem_append.1 hb with hb | hb
    · exact List.mem_cons_of_mem _ hb
    · rw [rowB_some] at hb; exact List.mem_cons.2 (.inl (List.mem_singleton.1 hb))
  · rw [rowB_some]
    have hp := List.pairwise_cons.1 h1.dist
    refine List.pairwise_append.2 ⟨hp.2, List.pairwise_singleton _ _, fun x hx y hy => ?_⟩
    rw [List.mem_singleton.1 hy]
    exact fun e => hp.1 x hx e.symm
  · intro W2 ho hz
    refine h1.fact W2 ⟨ho.os, ho.tape, ho.output, fun k hk hn => ho.same k hk fun b hb => ?_⟩ hz
    rcases List.mem_append.1 hb with hb | hb
    · exact hn b (List.mem_cons_of_mem _ hb)
    · rw [rowB_some] at hb; exact hn b (List.mem_cons.2 (.inl (List.mem_singleton.1 hb)))
theorem runs_append {sz by_ : Nat} {tx : TypeId} {v : Value} {N k : Nat} {xs cs news : List Value} {y : Value} (hT : P.underlying T = some (.slice E)) (hi : AI P E sz by_) (hsz : 0 < sz) (hS : St ds w W n a κ (l ++ rowB v cs E) Φ) (hO : OwnR v N sz xs cs)
    (hs : Src P sz tx y k news W) (hlen : (N + k) * by_ ≤ 140737488355328) :
    ∃ v' cs' W', (Builtin.append_ #[T, tx] ty #[v, y]).run P W = .ok v' W' ∧ OwnR v' (N + k) sz (xs ++ news) cs' ∧ St ds w W' n a κ (l ++ rowB v' cs' E) Φ := by
  obtain ⟨i, z, h1, h2, h3, h4, h5, h6⟩ := hi
  subst h3
  subst h4
  have hNk : N + k ≤ 140737488355328 := Nat.le_trans (Nat.le_mul_of_pos_right _ h6) hlen
  have hxl := hO.1
  have hnl := hs.newsLen
  have hml : N + k ≤ maxLen := by simp only [maxLen]; omega
  have grow : ∀ (base : Option Addr) (old : Nat) (hv : v = .slice base N old), old < N + k → (Builtin.firstCells i.size N (.slice base N old)).run P W.drew = .ok xs.toArray W.drew →
      ∃ v' cs' W', (Builtin.append_ #[T, tx] ty #[v, y]).run P W = .ok v' W' ∧ OwnR v' (N + k) i.size (xs ++ news) cs' ∧ St ds w W' n a κ (l ++ rowB v' cs' E) Φ := by
    intro base old hv hold hfc
    have hfit : Builtin.nextslicecap (N + k) old * i.bytes ≤ 281474976710656 := growslice_fits hold hlen
    have hr := run_append_grow_src (P := P) W T tx ty E i z hT h1 h2 base N old xs hfc y k news hs hold (by omega) hfit
    have hge := grownCap_ge W (N + k) old E
    have hcm : grownCap W (N + k) old E ≤ maxLen := grownCap_le_maxLen W (N + k) old E hml
    have e : (xs ++ news).toArray ++ Builtin.zeroCells z.cells (grownCap W (N + k) old E - (N + k)) = ((xs ++ news) ++ (Builtin.zeroCells z.cells (grownCap W (N + k) old E - (N + k))).toList).toArray := by simp
    rw [hv, hr, e]
    refine ⟨_, _, _, rfl, ⟨by rw [List.length_append, hxl, hnl, Nat.add_mul], .inr ⟨_, _, rfl, hge, hcm, ?_, ?_⟩⟩, hS.newRow _ _⟩
    · rw [List.length_append, List.length_append, hxl, hnl, Array.length_toList, size_zeroCells, h5, ← Nat.add_mul, ← Nat.add_mul]
      congr 1; omega
    · rw [show (N + k) * i.size = (xs ++ news).length by rw [List.length_append, hxl, hnl, Nat.add_mul]]
      exact List.take_left
  rcases hO.2 with ⟨rfl, rfl, rfl⟩ | ⟨b, cap, rfl, hnc, hcm, hcl, hct⟩
  · have hx : xs = [] := List.eq_nil_of_length_eq_zero (by simpa using hxl)
    subst hx
    by_cases hk : k = 0
    · subst hk
      have hn : news = [] := List.eq_nil_of_length_eq_zero (by simpa using hnl)
      subst hn
      refine ⟨.slice none 0 0, [], W, ?_, by simpa using OwnR.nil i.size, hS⟩
      rcases hs.kind with ⟨e', he⟩ | he <;> simp [Builtin.append_, run_underlying hT, run_underlying he, sizeOf, typeInfo, h1, hs.len, hs.cells]
    · exact grow none 0 rfl (by omega) (run_firstCells_none W.drew i.size 0 0 0)
  · by_cases hroom : N + k ≤ cap
    · have hB : nthB ((⟨b, cs, E⟩ : Blk) :: l) 0 = some ⟨b, cs, E⟩ := rfl
      have hmem : (⟨b, cs, E⟩ : Blk) ∈ l ++ rowB (.slice (some ⟨b, 0, none⟩) N cap) cs E := by simp [rowB_some]
      have hb := hS.blk _ hmem
      have hfit : N * i.size + news.length ≤ cs.length := by rw [hnl, hcl, ← Nat.add_mul]; exact Nat.mul_le_mul_right _ hroom
      have hst := run_storeCells_at P b (N * i.size) E news 0 cs.toArray W hb (by simpa using hfit) hs.one
      simp only [Nat.add_zero] at hst
      refine ⟨.slice (some ⟨b, 0, none⟩) (N + k) cap, cs.take (N * i.size) ++ news ++ cs.drop (N * i.size + news.length), W.setRow b (cs.take (N * i.size) ++ news ++ cs.drop (N * i.size + news.length)).toArray, ?_, ⟨by rw [List.length_append, hxl, hnl, Nat.add_mul], .inr ⟨b, cap, rfl, hroom, hcm, ?_, ?_⟩⟩, ?_⟩
      · rcases hs.kind with ⟨e', he⟩ | he <;> simp [Builtin.append_, run_underlying hT, run_underlying he, sizeOf, typeInfo, h1, hs.len, hroom, hs.cells, Addr.add_lit, hst]
      · simp only [List.length_append, List.length_take, List.length_drop]; omega
      · rw [hct, show (N + k) * i.size = (xs ++ news).length by rw [List.length_append, hxl, hnl, Nat.add_mul]]
        exact List.take_left
      · have := hS.write (l1 := l) (B := ⟨b, cs, E⟩) (l2 := []) (cs.take (N * i.size) ++ news ++ cs.drop (N * i.size + news.length))
        exact this
    · refine grow (some ⟨b, 0, none⟩) cap rfl (by omega) ?_
      have hmem : (⟨b, cs, E⟩ : Blk) ∈ l ++ rowB (.slice (some ⟨b, 0, none⟩) N cap) cs E := by simp [rowB_some]
      have hb := hS.blk _ hmem
      refine run_firstCells_some (P := P) W.drew i.size N ⟨b, 0, none⟩ N cap xs hxl ?_
      intro j u hj
      have hjx : j < xs.length := (List.getElem?_eq_some_iff.1 hj).1
      have : cs[j]? = some u := by rw [← hct, List.getElem?_take_of_lt (by omega)] at hj; exact hj
      rw [add_off, Nat.zero_add]
      show (W.drew).cell? ⟨b, j, none⟩ = some u
      have hbd : (W.drew).heap[b]? = some (.cells cs.toArray E (0, 0)) := hb
      simp [World.cell?, hbd, this]
theorem st_append {sz by_ : Nat} {tx : TypeId} {v y' : Value} {N k : Nat} {xs cs news : List Value} (hT : P.underlying T = some (.slice E)) (hi : AI P E sz by_) (hsz : 0 < sz) (hS : St ds w W n a κ (l ++ rowB v cs E) Φ) (hO : OwnR v N sz xs cs)
    (hw : Region.wanted ⟨some d, .call { callee := .builtin .append, args := #[x, y], argTypes := #[T, tx] }, ty, pos, af, g⟩ (yielded ops a.tmps) = true) (hd : Nat.blt d n = true) (hx : ev κ x = some v) (hy : ev κ y = some y') (hs : Src P sz tx y' k news W) (hlen : (N + k) * by_ ≤ 140737488355328)
    (K : ∀ W' a v' cs', OwnR v' (N + k) sz (xs ++ news) cs' → St ds w W' n a ((d, v') :: κ) (l ++ rowB v' cs' E) Φ → wpListIn (Fw r) m P ops Q rest a W') :
    wpListIn (Fw r) m P ops Q (⟨some d, .call { callee := .builtin .append, args := #[x, y], argTypes := #[T, tx] }, ty, pos, af, g⟩ :: rest) a W := by
  obtain ⟨v', cs', W', h1, h2, h3⟩ := runs_append (ty := ty) hT hi hsz hS hO hs hlen
  refine wl_op hw (by simp) (v := v') (W' := W') ?_ (K _ _ v' cs' h2 (h3.put hd v'))
  simp only [execOp]
  simp [resolve, invoke, builtin, hS.ev hx, hS.ev hy, h1]
/-- One's own small row, made for the append alone. -/
theorem src_own {sz k : Nat} {tx e' : TypeId} {cs : List Value} {b c i : Nat} {T' : TypeId} (hk : P.underlying tx = some (.slice e')) (hS : St ds w W n a κ l Φ) (hB : nthB l i = some ⟨b, cs, T'⟩) (hl : cs.length = k * sz) (h1 : cs.all (·.oneCell') = true) : Src P sz tx (.slice (some ⟨b, 0, none⟩) k c) k cs W :=
  Src.ofSlice W hk _ k c cs hl (fun j u hj => by rw [add_off, Nat.zero_add]; exact hS.cell hB hj) (fun u hu => List.all_eq_true.1 h1 u hu)
/-- A row of one's own becomes a list that is only read. -/
theorem OwnR.frozen {α : Type} {dk : Kd α} {xs : List α} {enc : α → List Value} {v : Value} {ys cs : List Value} (hS : St ds w W n a κ (l ++ rowB v cs T) Φ) (hO : OwnR v xs.length dk.sz ys cs) (hR : ∀ F W x, dk.R F W x (enc x)) (hys : ys = xs.flatMap enc) (hbd : xs.length * dk.by_ ≤ 140737488355328) :
    ∃ s : SV, v = .slice s.a xs.length s.c ∧ Sl dk (fun k => w.heap.size ≤ k) W s xs ∧ (∀ k, s.a = some k → k.off = 0) := by
  rcases hO.2 with ⟨rfl, h0, rfl⟩ | ⟨b, cap, rfl, hnc, hcm, hcl, hct⟩
  · have hx : xs = [] := List.eq_nil_of_length_eq_zero h0
    subst hx
    exact ⟨⟨none, 0⟩, rfl, ⟨Nat.le_refl _, by simp, fun j hj => absurd hj (Nat.not_lt_zero j)⟩, fun k h => by cases h⟩
  · have hmem : (⟨b, cs, T⟩ : Blk) ∈ l ++ rowB (.slice (some ⟨b, 0, none⟩) xs.length cap) cs T := by simp [rowB_some]
    have hb := hS.blk _ hmem
    have hold := hS.old _ hmem
    refine ⟨⟨some ⟨b, 0, none⟩, cap⟩, rfl, ⟨hnc, hbd, fun j hj => ⟨⟨b, 0, none⟩, enc xs[j], rfl, hold, hR _ _ _, fun i u hu => ?_⟩⟩, fun k h => by cases h; rfl⟩
    -- cell j * sz + i
    have hlen : ∀ x, (enc x).length = dk.sz := fun x => dk.len (hR (fun _ => True) W x)
    have hflat : ∀ (xs : List α) (j : Nat) (hj : j < xs.length) (i : Nat) (u : Value), (enc xs[j])[i]? = some u → (xs.flatMap enc)[j * dk.sz + i]? = some u := by
      intro xs
      induction xs with
      | nil => intro j hj; simp at hj
      | cons x xs ih =>
        intro j hj i u hu
        have hi : i < dk.sz := by rw [← hlen]; exact (List.getElem?_eq_some_iff.1 hu).1
        rw [List.flatMap_cons]
        cases j with
        | zero => rw [Nat.zero_mul, Nat.zero_add, List.getElem?_append_left (by rw [hlen]; exact hi)]; exact hu
        | succ j =>
          rw [List.getElem?_append_right (by rw [hlen, Nat.succ_mul]; omega), hlen, show (j + 1) * dk.sz + i - dk.sz = j * dk.sz + i by rw [Nat.succ_mul]; omega]
          exact ih j (by simpa using hj) i u (by simpa using hu)
    have h1 := hflat xs j hj i u hu
    rw [← hys, ← hct] at h1
    have hlt : j * dk.sz + i < xs.length * dk.sz := by
      have := (List.getElem?_eq_some_iff.1 h1).1
      rw [List.length_take] at this; omega
    rw [List.getElem?_take_of_lt hlt] at h1
    rw [add_off, Nat.zero_add]
    simp [World.cell?, hb, h1]
/-- A row of one's own that reads as a list. -/
abbrev OwnL {α : Type} (enc : α → List Value) (sz : Nat) (v : Value) (xs : List α) (cs : List Value) : Prop := OwnR v xs.length sz (xs.flatMap enc) cs
theorem OwnL.app {α : Type} {enc : α → List Value} {sz : Nat} {v : Value} {xs ys : List α} {cs : List Value} {N k : Nat} {us vs : List Value} (h : OwnR v (N + k) sz (us ++ vs) cs) (hN : N = xs.length) (hk : k = ys.length) (hu : us = xs.flatMap enc) (hv : vs = ys.flatMap enc) : OwnL enc sz v (xs ++ ys) cs := by
  subst hN hk hu hv
  simpa [OwnL] using h
theorem St.toRow {b k c : Nat} {cs : List Value} (hS : St ds w W n a κ (⟨b, cs, T⟩ :: l) Φ) : St ds w W n a κ (l ++ rowB (.slice (some ⟨b, 0, none⟩) k c) cs T) Φ := by
  rw [rowB_some]
  have hm : ∀ x, x ∈ l ++ [(⟨b, cs, T⟩ : Blk)] ↔ x ∈ (⟨b, cs, T⟩ : Blk) :: l := fun x => by simp [or_comm]
  refine ⟨hS.size, hS.defers, hS.get, hS.below, fun x hx => hS.blk x ((hm x).1 hx), fun x hx => hS.old x ((hm x).1 hx), ?_, fun W' ho hz => hS.fact W' ⟨ho.os, ho.tape, ho.output, fun k hk hn => ho.same k hk fun x hx => hn x ((hm x).1 hx)⟩ hz⟩
  have hp := List.pairwise_cons.1 hS.dist
  refine List.pairwise_append.2 ⟨hp.2, List.pairwise_singleton _ _, fun x hx y hy => ?_⟩
  rw [List.mem_singleton.1 hy]
  exact fun e => hp.1 x hx e.symm
theorem St.toRow0 (hS : St ds w W n a κ l Φ) : St ds w W n a κ (l ++ rowB (.slice none 0 0) [] T) Φ := by
  rw [rowB_none, List.append_nil]; exact hS
abbrev eInt (x : Int) : List Value := [.int .i64 x]
theorem OwnL.ints {v : Value} {xs : List Int} {cs : List Value} (hS : St ds w W n a κ (l ++ rowB v cs T) Φ) (hO : OwnL eInt 1 v xs cs) (hbd : xs.length * 8 ≤ 140737488355328) :
    ∃ s : SV, v = .slice s.a xs.length s.c ∧ Sl kInt (fun k => w.heap.size ≤ k) W s xs := by
  obtain ⟨s, h1, h2, _⟩ := OwnR.frozen (dk := kInt) (enc := eInt) hS hO (fun _ _ _ => rfl) rfl hbd
  exact ⟨s, h1, h2⟩
/-! ### halving by way of unsigned numbers; parts of slices; cells at an address -/
theorem run_conv {k k' : IntKind} {p : Int} {src dst : TypeId} (hs : P.underlying src = some (.int k)) (hd : P.underlying dst = some (.int k')) (hS : St ds w W n a κ l Φ) (hx : ev κ x = some (.int k p)) {q : Int} (hq : k'.wrap p = q) :
    (execOp a.eval ⟨some d, .convert src dst x, ty, pos, af, g⟩).run P W = .ok (.value (.int k' q)) W := by
  simp only [execOp, hS.ev hx]
  simp [convert, run_underlying hs, run_underlying hd, Conv.intToInt, hq]
theorem run_shr1 {k k' : IntKind} {p q : Int} (hS : St ds w W n a κ l Φ) (hx : ev κ x = some (.int k p)) (hy : ev κ y = some (.int k' 1)) (hb : min 1 k.bits = 1) (hq : p.fdiv 2 = q) :
    (execOp a.eval ⟨some d, .binOp .shr T x y T2, ty, pos, af, g⟩).run P W = .ok (.value (.int k q)) W := by
  simp only [execOp, hS.ev hx, hS.ev hy]
  simp only [Sem.run_bind]
  simp [eqGuard, binOp, Op.shift, hb, hq]
theorem run_slice {A : Option Addr} {k cp sz : Nat} {E : TypeId} {lo hi : Operand} {i j : Int} (hT : P.underlying T = some (.slice E)) (hz : ∀ w, (sizeOf E).run P w = .ok sz w) (hS : St ds w W n a κ l Φ) (hx : ev κ x = some (.slice A k cp)) (hlo : ev κ lo = some (.int .i64 i)) (hhi : ev κ hi = some (.int .i64 j))
    (h0 : 0 ≤ i) (h1 : i ≤ j) (h2 : j ≤ cp) : (execOp a.eval ⟨some d, .slice T x (some lo) (some hi) none, ty, pos, af, g⟩).run P W = .ok (.value (.slice (if cp = i.toNat then A else A.map (·.add (i.toNat * sz))) (j.toNat - i.toNat) (cp - i.toNat))) W := by
  have h3 : i ≤ ((j.toNat : Nat) : Int) := by omega
  simp only [execOp, hS.ev hx, Option.map_some, Option.map_none, hS.ev hlo, hS.ev hhi]
  simp [Instr.sliceAt, Instr.slice, Instr.sliceBounds, Instr.sliceBound, asIntOf, run_underlying hT, hz W, h0, h2, show (0 : Int) ≤ j by omega]
  intro hc
  omega
/-- These cells lie at this address. -/
def CellsAt (W : World) (p : Addr) (cs : List Value) : Prop := ∀ i u, cs[i]? = some u → W.cell? (p.add i) = some u
theorem CellsAt.later {W W' : World} {p : Addr} {cs : List Value} {m0 : Nat} (h : CellsAt W p cs) (hb : Below m0 W W') (hm : p.block < m0) : CellsAt W' p cs := fun i u hu => cell_same (h i u hu) (by rw [add_block]; exact hb.block _ hm)
theorem St.cells {b i : Nat} {cs : List Value} (hS : St ds w W n a κ l Φ) (hB : nthB l i = some ⟨b, cs, T⟩) : ∀ W', Below W.heap.size W W' → CellsAt W' ⟨b, 0, none⟩ cs := fun W' hb j u hu => by
  rw [add_off, Nat.zero_add]
  have hm := nthB_in hB
  have := hS.cell hB hu
  exact cell_same this (hb.block _ (hS.lt hm))
theorem St.cell0 {b i : Nat} {v : Value} (hS : St ds w W n a κ l Φ) (hB : nthB l i = some ⟨b, [v], T⟩) : ∀ W', Below W.heap.size W W' → W'.cell? ⟨b, 0, none⟩ = some v := fun W' hb => by
  have hm := nthB_in hB
  have := hS.cell hB (j := 0) (u := v) rfl
  exact cell_same this (hb.block _ (hS.lt hm))
theorem CellsAt.at_ {w W : World} {p : Addr} {cs : List Value} (h : CellsAt w p cs) (hb : Below w.heap.size w W) : CellsAt W p cs := fun i u hu => by
  have h1 := h i u hu
  have h2 := cell_lt h1
  exact cell_same h1 (hb.block _ h2)
theorem cell_at {w W : World} {p : Addr} {v : Value} (h : w.cell? p = some v) (hb : Below w.heap.size w W) : W.cell? p = some v := cell_same h (hb.block _ (cell_lt h))
def partSV (s : SV) (lo sz : Nat) : SV := ⟨if s.c = lo then s.a else s.a.map (·.add (lo * sz)), s.c - lo⟩
theorem run_part {s : SV} {m sz lo' hi' L : Nat} {E : TypeId} {lo hi : Operand} {i j : Int} (hT : P.underlying T = some (.slice E)) (hz : ∀ w, (sizeOf E).run P w = .ok sz w) (hS : St ds w W n a κ l Φ) (hx : ev κ x = some (.slice s.a m s.c)) (hlo : ev κ lo = some (.int .i64 i)) (hhi : ev κ hi = some (.int .i64 j))
    (e1 : i = (lo' : Int)) (e2 : j = (hi' : Int)) (h1 : lo' ≤ hi') (h2 : hi' ≤ s.c) (e : L = hi' - lo') : (execOp a.eval ⟨some d, .slice T x (some lo) (some hi) none, ty, pos, af, g⟩).run P W = .ok (.value (.slice (partSV s lo' sz).a L (partSV s lo' sz).c)) W := by
  subst e1 e2 e
  exact run_slice hT hz hS hx hlo hhi (by omega) (by omega) (by omega)
/-- A part of a list. -/
theorem Sl.part {α : Type} {dk : Kd α} {F : Nat → Prop} {W : World} {s : SV} {xs : List α} (h : Sl dk F W s xs) {lo hi : Nat} (h1 : lo ≤ hi) (h2 : hi ≤ xs.length) :
    Sl dk F W (partSV s lo dk.sz) ((xs.drop lo).take (hi - lo)) := by
  have hl : ((xs.drop lo).take (hi - lo)).length = hi - lo := by simp; omega
  refine ⟨by rw [hl]; have := h.1; show hi - lo ≤ s.c - lo; omega, ?_, fun j hj => ?_⟩
  · rw [hl]
    have h3 := h.2.1
    have : (hi - lo) * dk.by_ ≤ xs.length * dk.by_ := Nat.mul_le_mul_right _ (by omega)
    omega
  · rw [hl] at hj
    obtain ⟨ad, cs, e1, e2, e3, e4⟩ := h.2.2 (lo + j) (by omega)
    have hne : ¬ s.c = lo := by have := h.1; omega
    refine ⟨ad.add (lo * dk.sz), cs, by simp [partSV, hne, e1], by rw [add_block]; exact e2, by simpa using e3, fun i u hu => ?_⟩
    have := e4 i u hu
    rw [add_add]
    rwa [show lo * dk.sz + (j * dk.sz + i) = (lo + j) * dk.sz + i by rw [Nat.add_mul]; omega]
/-- One's own small row, read as a list. -/
theorem own_sl_of {α : Type} {dk : Kd α} {enc : α → List Value} {xs : List α} {b i : Nat} (hR : ∀ F W x, dk.R F W x (enc x)) (hS : St ds w W n a κ l Φ) (hB : nthB l i = some ⟨b, xs.flatMap enc, T⟩) (hbd : xs.length * dk.by_ ≤ 140737488355328) :
    Sl dk (fun _ => True) W ⟨some ⟨b, 0, none⟩, xs.length⟩ xs := by
  refine ⟨Nat.le_refl _, hbd, fun j hj => ⟨⟨b, 0, none⟩, enc xs[j], rfl, trivial, hR _ _ _, fun i' u hu => ?_⟩⟩
  have hlen : ∀ x, (enc x).length = dk.sz := fun x => dk.len (hR (fun _ => True) W x)
  have hflat : ∀ (xs : List α) (j : Nat) (hj : j < xs.length) (i : Nat) (u : Value), (enc xs[j])[i]? = some u → (xs.flatMap enc)[j * dk.sz + i]? = some u := by
    intro xs
    induction xs with
    | nil => intro j hj; simp at hj
    | cons x xs ih =>
      intro j hj i u hu
      have hi : i < dk.sz := by rw [← hlen]; exact (List.getElem?_eq_some_iff.1 hu).1
      rw [List.flatMap_cons]
      cases j with
      | zero => rw [Nat.zero_mul, Nat.zero_add, List.getElem?_append_left (by rw [hlen]; exact hi)]; exact hu
      | succ j =>
        rw [List.getElem?_append_right (by rw [hlen, Nat.succ_mul]; omega), hlen, show (j + 1) * dk.sz + i - dk.sz = j * dk.sz + i by rw [Nat.succ_mul]; omega]
        exact ih j (by simpa using hj) i u (by simpa using hu)
  rw [add_off, Nat.zero_add]
  exact hS.cell hB (hflat xs j hj i' u hu)
theorem CellsAt.get (W : World) {p : Addr} {cs : List Value} (h : CellsAt W p cs) : CellsAt W p cs := h
theorem CellsAt.sub {W : World} {p : Addr} {cs vs : List Value} {off : Nat} (h : CellsAt W p cs) (hs : Seg cs off vs) : ∀ j v, vs[j]? = some v → W.cell? ((p.add off).add j) = some v := fun j v hj => by
  rw [add_add]; exact h _ _ (hs.get j v hj)
end
end Go.Proofs.YtdnodlgebpnfoaaGreat
