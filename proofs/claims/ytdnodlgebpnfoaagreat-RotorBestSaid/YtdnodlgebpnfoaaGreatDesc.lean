/- Descents: drops, how they lie in memory, what is lost in them. -/
import Derived.Test.YtdnodlgebpnfoaaGreatCut
import Derived.Test.YtdnodlgebpnfoaaGreatCopy
import Derived.Test.YtdnodlgebpnfoaaGreatLaw2
namespace Go.Proofs.YtdnodlgebpnfoaaGreat
open Go Go.RowKit Go.Shelf Sw

abbrev dropC (d : Drop) : List Value := [.int .i64 d.speed.lo, .int .i64 d.speed.hi, .int .i64 d.sink.lo, .int .i64 d.sink.hi, .int .i64 d.ticks]
abbrev kDrop : Kd Drop := kOf dropC 5 40 (by decide) (fun _ => rfl)
def dropD : Drop := ⟨⟨0, 0⟩, ⟨0, 0⟩, 0⟩
def dropAt (xs : List Drop) (j : Nat) : Drop := xs.getD j dropD

/-! ### rows of structs, copied -/
section
variable {P : Program} {r : Option Nat} {m : Nat} {ops : Array Oper} {Q : Exit → Act → World → Prop} {ds : List Nat} {w W : World} {n d : Nat} {κ : KV} {l : List Blk} {Φ : World → Prop} {a : Act}
  {rest : List Oper} {ty T E tx e' : TypeId} {pos : String} {af : Array Edge} {g : Option (Nat × Bool)} {F : Nat → Prop} {s : SV} {α : Type} {enc : α → List Value} {nn bb : Nat} {hb : 0 < bb} {hl : ∀ x, (enc x).length = nn} {xs : List α}
theorem flat_get (hl : ∀ x, (enc x).length = nn) : ∀ (xs : List α) (q i : Nat) (h : q < xs.length), i < nn → (xs.flatMap enc)[q * nn + i]? = (enc xs[q])[i]?
  | x :: xs, 0, i, _, hi => by
    rw [List.flatMap_cons, Nat.zero_mul, Nat.zero_add, List.getElem?_append_left (by rw [hl]; exact hi)]; rfl
  | x :: xs, q + 1, i, h, hi => by
    have e : (q + 1) * nn + i = nn + (q * nn + i) := by rw [Nat.add_mul]; omega
    rw [List.flatMap_cons, e, List.getElem?_append_right (by rw [hl]; omega), hl, Nat.add_sub_cancel_left]
    exact flat_get hl xs q i (by simpa using h) hi
theorem flat_len (hl : ∀ x, (enc x).length = nn) : ∀ xs : List α, (xs.flatMap enc).length = xs.length * nn
  | [] => by simp
  | x :: xs => by rw [List.flatMap_cons, List.length_append, hl, flat_len hl xs, List.length_cons, Nat.add_mul]; omega
theorem src_kof (hn : 0 < nn) (hk : P.underlying tx = some (.slice e')) (h1 : ∀ x, ∀ u ∈ enc x, u.oneCell' = true) (h : Sl (kOf enc nn bb hb hl) F W s xs) : Src P nn tx (.slice s.a xs.length s.c) xs.length (xs.flatMap enc) W := by
  cases hx : s.a with
  | none =>
    have h0 : xs = [] := by
      cases xs with
      | nil => rfl
      | cons x xs => obtain ⟨ad, _, e, _⟩ := h.2.2 0 (by simp); rw [hx] at e; cases e
    subst h0
    exact Src.ofNil (P := P) W hk s.c
  | some ad =>
    refine Src.ofSlice W hk ad xs.length s.c _ (flat_len hl xs) (fun j u hj => ?_) (fun u hu => ?_)
    · have hjl : j < xs.length * nn := by rw [← flat_len hl xs]; exact (List.getElem?_eq_some_iff.1 hj).1
      have hq : j / nn < xs.length := (Nat.div_lt_iff_lt_mul hn).2 hjl
      have hr := Nat.mod_lt j hn
      have e : j = j / nn * nn + j % nn := by rw [Nat.mul_comm]; exact (Nat.div_add_mod j nn).symm
      rw [e, flat_get hl xs _ _ hq hr] at hj
      obtain ⟨ad', cs, h2, _, h3, h4⟩ := h.2.2 _ hq
      rw [hx] at h2; cases h2
      have h3' : cs = enc xs[j / nn] := h3
      subst h3'
      rw [e]; exact h4 _ _ hj
    · obtain ⟨x, _, hx⟩ := List.mem_flatMap.1 hu; exact h1 x u hx
theorem sl_blockK {b cap : Nat} {cs : List Value} (hbk : W.heap[b]? = some (.cells cs.toArray T (0, 0))) (hcs : ∀ (j : Nat) (u : Value), (xs.flatMap enc)[j]? = some u → cs[j]? = some u) (hc : xs.length ≤ cap) (hbd : xs.length * bb ≤ 140737488355328) (hF : F b) :
    Sl (kOf enc nn bb hb hl) F W ⟨some ⟨b, 0, none⟩, cap⟩ xs :=
  ⟨hc, hbd, fun j hj => ⟨⟨b, 0, none⟩, enc xs[j], rfl, hF, rfl, fun i u hu => by
    have hi : i < nn := by rw [← hl xs[j]]; exact (List.getElem?_eq_some_iff.1 hu).1
    have h1 := hcs (j * nn + i) u (by rw [flat_get hl xs j i hj hi]; exact hu)
    show W.cell? ((⟨b, 0, none⟩ : Addr).add (j * nn + i)) = some u
    rw [add_off, Nat.zero_add]
    simp [World.cell?, hbk, h1]⟩⟩
theorem drop_one : ∀ x : Drop, ∀ u ∈ dropC x, u.oneCell' = true := by
  intro x u hu
  simp only [List.mem_cons, List.not_mem_nil, or_false] at hu
  rcases hu with rfl | rfl | rfl | rfl | rfl <;> rfl
/-- A part from the front, a part to the end. -/
theorem run_partH {x : Operand} {m sz hi' L : Nat} {hi : Operand} {j : Int} (hT : P.underlying T = some (.slice E)) (hz : ∀ w, (sizeOf E).run P w = .ok sz w) (hS : St ds w W n a κ l Φ) (hx : ev κ x = some (.slice s.a m s.c)) (hhi : ev κ hi = some (.int .i64 j))
    (e2 : j = (hi' : Int)) (h2 : hi' ≤ s.c) (e : L = hi' - 0) : (execOp a.eval ⟨some d, .slice T x none (some hi) none, ty, pos, af, g⟩).run P W = .ok (.value (.slice (partSV s 0 sz).a L (partSV s 0 sz).c)) W := by
  subst e2 e
  simp only [execOp, hS.ev hx, Option.map_some, Option.map_none, hS.ev hhi]
  simp [Instr.sliceAt, Instr.slice, Instr.sliceBounds, Instr.sliceBound, asIntOf, run_underlying hT, hz W, partSV]
  intro hc
  omega
theorem run_partL {x : Operand} {m sz lo' L : Nat} {lo : Operand} {i : Int} (hT : P.underlying T = some (.slice E)) (hz : ∀ w, (sizeOf E).run P w = .ok sz w) (hS : St ds w W n a κ l Φ) (hx : ev κ x = some (.slice s.a m s.c)) (hlo : ev κ lo = some (.int .i64 i))
    (e1 : i = (lo' : Int)) (h1 : lo' ≤ m) (h2 : m ≤ s.c) (e : L = m - lo') : (execOp a.eval ⟨some d, .slice T x (some lo) none none, ty, pos, af, g⟩).run P W = .ok (.value (.slice (partSV s lo' sz).a L (partSV s lo' sz).c)) W := by
  subst e1 e
  simp only [execOp, hS.ev hx, Option.map_some, Option.map_none, hS.ev hlo]
  simp [Instr.sliceAt, Instr.slice, Instr.sliceBounds, Instr.sliceBound, asIntOf, run_underlying hT, hz W, partSV]
  intro hc
  omega
/-- A list that came in, appended to a row without elements. -/
theorem runs_appK {b : Nat} (hn : 0 < nn) (hT : P.underlying T = some (.slice E)) (hi : AI P E nn bb) (hk : P.underlying tx = some (.slice e')) (h1 : ∀ x, ∀ u ∈ enc x, u.oneCell' = true) (hbk : W.heap[b]? = some (.cells #[] E (0, 0))) (hx : Sl (kOf enc nn bb hb hl) F W s xs) (hlen : xs.length * bb ≤ 140737488355328) (hlm : xs.length ≤ 1000) :
    ∃ u W1, (Builtin.append_ #[T, tx] ty #[.slice (some ⟨b, 0, none⟩) 0 0, .slice s.a xs.length s.c]).run P W = .ok u W1 ∧ Later W W1 ∧ ∃ s' : SV, u = .slice s'.a xs.length s'.c ∧ Sl (kOf enc nn bb hb hl) (fun k => W.heap.size ≤ k) W1 s' xs := by
  obtain ⟨i, z, g1, g2, g3, g4, g5, g6⟩ := hi
  have hs := src_kof (P := P) hn hk h1 hx
  by_cases h0 : xs = []
  · subst h0
    refine ⟨.slice (some ⟨b, 0, none⟩) 0 0, W, ?_, Later.refl W, ⟨some ⟨b, 0, none⟩, 0⟩, rfl, Nat.le_refl _, by simp, fun j hj => by simp at hj⟩
    rcases hs.kind with ⟨e', he⟩ | he <;> simp [Builtin.append_, run_underlying hT, run_underlying he, sizeOf, typeInfo, g1, Builtin.lenOf, g3, storeCells, Addr.add] <;> first | done | (have := hs.cells; simp only [List.length_nil, List.flatMap_nil] at this; simp [this, storeCells]; done) | rfl
  · have hp : 0 < xs.length := List.length_pos_iff.2 h0
    have hs' : Src P i.size tx (.slice s.a xs.length s.c) xs.length (xs.flatMap enc) W := by rw [g3]; exact hs
    have hfit : Builtin.nextslicecap (0 + xs.length) 0 * i.bytes ≤ 281474976710656 := growslice_fits (by omega) (by rw [g4, Nat.zero_add]; exact hlen)
    have hr := run_append_grow_src (P := P) W T tx ty E i z hT g1 g2 (some ⟨b, 0, none⟩) 0 0 [] (run_firstCells_some (P := P) W.drew i.size 0 ⟨b, 0, none⟩ 0 0 [] (by simp) (by simp)) _ _ _ hs' (by omega) (by omega) hfit
    refine ⟨_, _, hr, ?_, ⟨some ⟨W.heap.size, 0, none⟩, grownCap W (0 + xs.length) 0 E⟩, ?_, ?_⟩
    · exact (⟨rfl, rfl, rfl, Nat.le_refl _, fun _ _ => rfl⟩ : Below W.heap.size W W.drew).alloc (Nat.le_refl _) _
    · simp
    · have hge := grownCap_ge W (0 + xs.length) 0 E
      refine sl_blockK (cs := (([] ++ xs.flatMap enc).toArray ++ Builtin.zeroCells z.cells (grownCap W (0 + xs.length) 0 E - (0 + xs.length))).toList) (T := E) (by rw [Array.toArray_toList]; exact World.alloc_heap_new W.drew _) (fun j u hj => ?_) (by omega) (by omega) (Nat.le_refl _)
      have hjl := (List.getElem?_eq_some_iff.1 hj).1
      simp only [List.nil_append, Array.toList_append]
      rw [List.getElem?_append_left (by simpa using hjl)]; exact hj
theorem st_app0 {tys : Array TypeId} {t t' b i : Nat} (hty : tys = #[T, tx]) (hn : 0 < nn) (hT : P.underlying T = some (.slice E)) (hi : AI P E nn bb) (hk : P.underlying tx = some (.slice e')) (h1 : ∀ x, ∀ u ∈ enc x, u.oneCell' = true) (hsl : Sl (kOf enc nn bb hb hl) F W s xs) (hlm : xs.length ≤ 1000)
    (hS : St ds w W n a κ l Φ) (hB : nthB l i = some ⟨b, [], E⟩)
    (hw : Region.wanted ⟨some d, .call { callee := .builtin .append, args := #[.tmp t, .tmp t'], argTypes := tys }, ty, pos, af, g⟩ (yielded ops a.tmps) = true) (hd : Nat.blt d n = true) (hx : ev κ (.tmp t) = some (.slice (some ⟨b, 0, none⟩) 0 0)) (hy : ev κ (.tmp t') = some (.slice s.a xs.length s.c))
    (K : ∀ v W' a, (∃ s' : SV, v = .slice s'.a xs.length s'.c ∧ Sl (kOf enc nn bb hb hl) (fun k => W.heap.size ≤ k) W' s' xs) → Below W.heap.size W W' → (∀ B ∈ l, B.b < W.heap.size) → St ds w W' n a ((d, v) :: κ) l Φ → wpListIn (Fw r) m P ops Q rest a W') :
    wpListIn (Fw r) m P ops Q (⟨some d, .call { callee := .builtin .append, args := #[.tmp t, .tmp t'], argTypes := tys }, ty, pos, af, g⟩ :: rest) a W := by
  subst hty
  obtain ⟨u, W1, q1, q2, q3⟩ := runs_appK (P := P) (ty := ty) hn hT hi hk h1 (hS.blk _ (nthB_in hB)) hsl hsl.2.1 hlm
  refine wl_op hw (by simp) (v := u) (W' := W1) ?_ (K u W1 _ q3 q2 (fun B hB => hS.lt hB) ((hS.grow q2).put hd u))
  simp only [execOp]
  simp [resolve, invoke, builtin, hS.ev hx, hS.ev hy, q1]
end
/-! ### what is lost -/
def ringOn (r : Rot) (a : Air) : Bool := liesT r.low (one (ix r.low.X 0)) a.weight
theorem ringOn_is (a : Air) {r : Rot} (h : RotP r) : ringOn r a = lies r.low.Y a.weight.lo a.weight.hi := by
  have hX := (tab_axes h.low.1).1
  have h1 := hX.le (Nat.zero_le (r.low.X.length - 1)) (by have := hX.two; omega)
  unfold ringOn liesT
  have e : lies r.low.X (one (ix r.low.X 0)).lo (one (ix r.low.X 0)).hi = true := by
    unfold lies one lastOf
    rw [decide_eq_true (Int.le_refl _), decide_eq_true h1]; rfl
  rw [e, Bool.true_and]
def dropOk (r : Rot) (a : Air) (d : Drop) : Bool := within d.ticks 0 1000 && d.speed.ok && d.sink.ok && liesT r.low d.speed a.weight
def dropE (r : Rot) (a : Air) (d : Drop) : Int := if dropOk r a d then (if wakeOf r a d.speed d.sink then 22 else 0) else 1
def badFrom (f : Drop → Int) : List Drop → Nat → Int × Nat
  | [], _ => (0, 0)
  | d :: l, i => if f d = 0 then badFrom f l (i + 1) else (f d, i)
theorem badFrom_none {f : Drop → Int} : ∀ {l : List Drop} {s : Nat}, (∀ j, j < l.length → f (dropAt l j) = 0) → badFrom f l s = (0, 0)
  | [], _, _ => rfl
  | d :: l, s, h => by
    have h0 : f d = 0 := h 0 (by simp)
    rw [badFrom, if_pos h0]
    exact badFrom_none fun j hj => h (j + 1) (by simpa using hj)
theorem badFrom_some {f : Drop → Int} : ∀ {l : List Drop} {s i : Nat}, i < l.length → (∀ j, j < i → f (dropAt l j) = 0) → f (dropAt l i) ≠ 0 → badFrom f l s = (f (dropAt l i), s + i)
  | d :: l, s, 0, _, _, h => by
    have h0 : f d ≠ 0 := h
    rw [badFrom, if_neg h0]; rfl
  | d :: l, s, i + 1, hi, hg, h => by
    have h0 : f d = 0 := hg 0 (Nat.succ_pos i)
    rw [badFrom, if_pos h0, badFrom_some (i := i) (by simpa using hi) (fun j hj => hg (j + 1) (by omega)) h]
    exact Prod.ext rfl (by show s + 1 + i = s + (i + 1); omega)
theorem badFrom_ok {f : Drop → Int} : ∀ {l : List Drop} {s : Nat}, (badFrom f l s).1 = 0 → ∀ d ∈ l, f d = 0
  | [], _, _, d, hd => by cases hd
  | x :: l, s, h, d, hd => by
    rw [badFrom] at h
    by_cases hx : f x = 0
    · rw [if_pos hx] at h
      rcases List.mem_cons.1 hd with rfl | hd
      · exact hx
      · exact badFrom_ok h d hd
    · rw [if_neg hx] at h; exact absurd h hx
theorem badFrom_all {f : Drop → Int} {s : Nat} : ∀ {l : List Drop}, (∀ d ∈ l, f d = 0) → badFrom f l s = (0, 0) := fun {l} h => badFrom_none fun j hj => h _ (by unfold dropAt; exact getD_mem hj)
def sumLo : List Drop → Int
  | [] => 0
  | d :: l => d.sink.lo * d.ticks + sumLo l
def sumHi : List Drop → Int
  | [] => 0
  | d :: l => d.sink.hi * d.ticks + sumHi l
def sumOf (l : List Drop) : Span := ⟨sumLo l, sumHi l⟩
theorem sum_app (l l' : List Drop) : sumLo (l ++ l') = sumLo l + sumLo l' ∧ sumHi (l ++ l') = sumHi l + sumHi l' := by
  induction l with
  | nil => simp [sumLo, sumHi]
  | cons d l ih => simp only [List.cons_append, sumLo, sumHi]; omega
theorem sum_take {l : List Drop} {i : Nat} (h : i < l.length) : sumLo (l.take (i + 1)) = sumLo (l.take i) + (dropAt l i).sink.lo * (dropAt l i).ticks ∧ sumHi (l.take (i + 1)) = sumHi (l.take i) + (dropAt l i).sink.hi * (dropAt l i).ticks := by
  rw [List.take_succ_eq_append_getElem h]
  have e : l[i] = dropAt l i := by simp [dropAt, List.getD_eq_getElem?_getD, h]
  have := sum_app (l.take i) [l[i]]
  rw [e] at this ⊢
  simp only [sumLo, sumHi] at this
  omega
theorem prod_abs {x y : Int} (h1 : -1000000 ≤ x ∧ x ≤ 1000000) (h2 : 0 ≤ y ∧ y ≤ 1000) : -1000000000 ≤ x * y ∧ x * y ≤ 1000000000 := by
  have a1 := Int.mul_le_mul_of_nonneg_right h1.1 h2.1
  have a2 := Int.mul_le_mul_of_nonneg_right h1.2 h2.1
  omega
def descE (r : Rot) (a : Air) (l : List Drop) : Int :=
  if errC r a (ringOn r a) = 0 then (if 50 < l.length then 2 else if (badFrom (dropE r a) l 0).1 = 0 then (if (sumOf l).ok then 0 else 2) else (badFrom (dropE r a) l 0).1) else errC r a (ringOn r a)
def descP (r : Rot) (a : Air) (l : List Drop) : Int := if errC r a (ringOn r a) = 0 then (if 50 < l.length then 0 else ((badFrom (dropE r a) l 0).2 : Int)) else 0
def descV (r : Rot) (a : Air) (l : List Drop) : Span := if descE r a l = 0 then sumOf l else ⟨0, 0⟩
theorem dropOk_of {r : Rot} {a : Air} {d : Drop} (h : dropE r a d = 0) : dropOk r a d = true ∧ wakeOf r a d.speed d.sink = false := by
  unfold dropE at h
  by_cases h1 : dropOk r a d = true
  · rw [if_pos h1] at h
    by_cases h2 : wakeOf r a d.speed d.sink = true
    · rw [if_pos h2] at h; cases h
    · exact ⟨h1, by simpa using h2⟩
  · rw [if_neg h1] at h; cases h
theorem dropOk_parts {r : Rot} {a : Air} {d : Drop} (h : dropOk r a d = true) : (0 ≤ d.ticks ∧ d.ticks ≤ 1000) ∧ d.speed.ok = true ∧ d.sink.ok = true ∧ liesT r.low d.speed a.weight = true := by
  simp only [dropOk, within, Bool.and_eq_true, decide_eq_true_eq] at h
  exact ⟨h.1.1.1, h.1.1.2, h.1.2, h.2⟩
theorem desc_ok {r : Rot} {a : Air} {l : List Drop} (h : descE r a l = 0) : errC r a (ringOn r a) = 0 ∧ l.length ≤ 50 ∧ (∀ d ∈ l, dropE r a d = 0) ∧ (sumOf l).ok = true ∧ descV r a l = sumOf l := by
  have hv : descV r a l = sumOf l := if_pos h
  unfold descE at h
  by_cases h1 : errC r a (ringOn r a) = 0
  · rw [if_pos h1] at h
    by_cases h2 : 50 < l.length
    · rw [if_pos h2] at h; cases h
    · rw [if_neg h2] at h
      by_cases h3 : (badFrom (dropE r a) l 0).1 = 0
      · rw [if_pos h3] at h
        by_cases h4 : (sumOf l).ok = true
        · exact ⟨h1, by omega, badFrom_ok h3, h4, hv⟩
        · rw [if_neg h4] at h; cases h
      · rw [if_neg h3] at h; exact absurd h h3
  · rw [if_neg h1] at h; exact absurd h h1
theorem desc_bad {r : Rot} {a : Air} {l : List Drop} {i : Nat} (h1 : errC r a (ringOn r a) = 0) (h2 : l.length ≤ 50) (hi : i < l.length) (hg : ∀ j, j < i → dropE r a (dropAt l j) = 0) (hb : dropE r a (dropAt l i) ≠ 0) :
    descE r a l = dropE r a (dropAt l i) ∧ descP r a l = (i : Int) ∧ descV r a l = ⟨0, 0⟩ := by
  have e0 := badFrom_some (s := 0) hi hg hb
  have e1 : descE r a l = dropE r a (dropAt l i) := by unfold descE; rw [if_pos h1, if_neg (by omega), e0]; exact if_neg hb
  refine ⟨e1, ?_, ?_⟩
  · unfold descP; rw [if_pos h1, if_neg (by omega), e0, Nat.zero_add]
  · unfold descV; rw [e1, if_neg hb]
theorem desc_end {r : Rot} {a : Air} {l : List Drop} (h1 : errC r a (ringOn r a) = 0) (h2 : l.length ≤ 50) (hg : ∀ j, j < l.length → dropE r a (dropAt l j) = 0) : descE r a l = (if (sumOf l).ok then 0 else 2) ∧ descP r a l = 0 := by
  have e0 := badFrom_none (s := 0) hg
  have h3 : ¬ 50 < l.length := by omega
  refine ⟨?_, ?_⟩
  · unfold descE
    rw [if_pos h1, if_neg h3, e0, if_pos rfl]
  · unfold descP
    rw [if_pos h1, if_neg h3, e0]; rfl
/-- A part of an accepted descent. -/
theorem desc_part {r : Rot} {a : Air} {l l' : List Drop} (h1 : errC r a (ringOn r a) = 0) (h2 : l'.length ≤ 50) (h3 : ∀ d ∈ l, dropE r a d = 0) (hs : ∀ d ∈ l', d ∈ l) : descE r a l' = 0 ∨ descE r a l' = 2 := by
  unfold descE
  rw [if_pos h1, if_neg (by omega), badFrom_all fun d hd => h3 d (hs d hd), if_pos rfl]
  by_cases h4 : (sumOf l').ok = true
  · exact .inl (if_pos h4)
  · exact .inr (if_neg h4)
theorem wake_corner {r : Rot} {a : Air} {d : Drop} (hr : rotOk r = true) (ha : airOk a = true) (h : dropOk r a d = true) (hw : wakeOf r a d.speed d.sink = false) {x y : Int} (hx : d.speed.lo ≤ x ∧ x ≤ d.speed.hi) (hy : d.sink.lo ≤ y ∧ y ≤ d.sink.hi) :
    errC r a (onWake r a ⟨x, x⟩ ⟨y, y⟩) = 0 ∧ wakeV r a ⟨x, x⟩ ⟨y, y⟩ = false := by
  obtain ⟨_, h2, h3, h4⟩ := dropOk_parts h
  have p1 := (Span.ok_iff _).1 h2; have p2 := (Span.ok_iff _).1 h3
  have o1 : (⟨x, x⟩ : Span).ok = true := (Span.ok_iff _).2 (by simp only; omega)
  have o2 : (⟨y, y⟩ : Span).ok = true := (Span.ok_iff _).2 (by simp only; omega)
  have on : onWake r a d.speed d.sink = true := by simp [onWake, onRing, h2, h3, h4]
  have hs := wake_sub hr ha ha on o1 o2 ⟨Int.le_refl _, Int.le_refl _⟩ (show spanIn ⟨x, x⟩ d.speed from hx) (show spanIn ⟨y, y⟩ d.sink from hy)
  have e := errC_of hr ha hs.1
  refine ⟨e, ?_⟩
  unfold wakeV
  rw [if_pos e]
  cases hq : wakeOf r a ⟨x, x⟩ ⟨y, y⟩ with
  | false => rfl
  | true => rw [hs.2 hq] at hw; cases hw
theorem halves (l : List Drop) {k : Nat} (h : k ≤ l.length) : sumLo ((l.drop 0).take (k - 0)) + sumLo ((l.drop k).take (l.length - k)) = sumLo l ∧ sumHi ((l.drop 0).take (k - 0)) + sumHi ((l.drop k).take (l.length - k)) = sumHi l := by
  have h1 := sum_app (l.take k) (l.drop k)
  rw [List.take_append_drop] at h1
  rw [List.drop_zero, Nat.sub_zero, List.take_of_length_le (show (l.drop k).length ≤ l.length - k by simp)]
  exact ⟨h1.1.symm, h1.2.symm⟩
theorem mem_part {l : List Drop} {i k : Nat} {d : Drop} (h : d ∈ (l.drop i).take k) : d ∈ l := List.mem_of_mem_drop (List.mem_of_mem_take h)
theorem add_parts {r : Rot} {a : Air} {l : List Drop} {k : Nat} (h : k ≤ l.length) (h0 : (sumOf l).ok = true) (h1 : descE r a ((l.drop 0).take (k - 0)) = 0) (h2 : descE r a ((l.drop k).take (l.length - k)) = 0) :
    addE (descV r a ((l.drop 0).take (k - 0))) (descV r a ((l.drop k).take (l.length - k))) = 0 ∧ (⟨(descV r a ((l.drop 0).take (k - 0))).lo + (descV r a ((l.drop k).take (l.length - k))).lo, (descV r a ((l.drop 0).take (k - 0))).hi + (descV r a ((l.drop k).take (l.length - k))).hi⟩ : Span) = sumOf l := by
  obtain ⟨_, _, _, o1, v1⟩ := desc_ok h1
  obtain ⟨_, _, _, o2, v2⟩ := desc_ok h2
  rw [v1, v2]
  have hh := halves l h
  have e : (⟨(sumOf ((l.drop 0).take (k - 0))).lo + (sumOf ((l.drop k).take (l.length - k))).lo, (sumOf ((l.drop 0).take (k - 0))).hi + (sumOf ((l.drop k).take (l.length - k))).hi⟩ : Span) = sumOf l := by
    unfold sumOf; simp only [Span.mk.injEq]; exact hh
  refine ⟨?_, e⟩
  unfold addE
  rw [e, o1, o2, h0]; rfl
end Go.Proofs.YtdnodlgebpnfoaaGreat
