/- The best speed, the fastest one; rows that grow beyond their memory. -/
import Derived.Test.YtdnodlgebpnfoaaGreatDesc
namespace Go.Proofs.YtdnodlgebpnfoaaGreat
open Go Go.RowKit Go.Shelf Sw

section
variable {P : Program} {r : Option Nat} {m : Nat} {ops : Array Oper} {Q : Exit → Act → World → Prop} {ds : List Nat} {w W : World} {n d : Nat} {κ : KV} {l : List Blk} {Φ : World → Prop} {a : Act}
  {rest : List Oper} {ty T E tx e' : TypeId} {pos : String} {af : Array Edge} {g : Option (Nat × Bool)} {F : Nat → Prop} {s : SV} {α : Type} {enc : α → List Value} {nn bb : Nat} {hb : 0 < bb} {hl : ∀ x, (enc x).length = nn} {xs ys : List α}
theorem runs_appG {y : Value} (hn : 0 < nn) (hT : P.underlying T = some (.slice E)) (hi : AI P E nn bb) (hx : Sl (kOf enc nn bb hb hl) F W s xs) (hc : s.c = xs.length) (hs : Src P nn tx y ys.length (ys.flatMap enc) W) (hy : 0 < ys.length) (hlen : (xs.length + ys.length) * bb ≤ 140737488355328) (hlm : xs.length + ys.length ≤ 1000) :
    ∃ u W1, (Builtin.append_ #[T, tx] ty #[.slice s.a xs.length s.c, y]).run P W = .ok u W1 ∧ Later W W1 ∧ ∃ s' : SV, u = .slice s'.a (xs ++ ys).length s'.c ∧ Sl (kOf enc nn bb hb hl) (fun k => W.heap.size ≤ k) W1 s' (xs ++ ys) := by
  obtain ⟨i, z, g1, g2, g3, g4, g5, g6⟩ := hi
  have hs' : Src P i.size tx y ys.length (ys.flatMap enc) W := by rw [g3]; exact hs
  have hfit : Builtin.nextslicecap (xs.length + ys.length) s.c * i.bytes ≤ 281474976710656 := growslice_fits (by omega) (by rw [g4]; exact hlen)
  have hfc : (Builtin.firstCells i.size xs.length (.slice s.a xs.length s.c)).run P W.drew = .ok (xs.flatMap enc).toArray W.drew := by
    cases hx0 : s.a with
    | none =>
      have h0 : xs = [] := by
        cases xs with
        | nil => rfl
        | cons x xs => obtain ⟨ad, _, e, _⟩ := hx.2.2 0 (by simp); rw [hx0] at e; cases e
      subst h0
      exact run_firstCells_none W.drew _ _ _ _
    | some ad =>
      refine run_firstCells_some (P := P) W.drew i.size xs.length ad xs.length s.c (xs.flatMap enc) (by rw [flat_len hl, g3]) fun j u hj => ?_
      have hjl : j < xs.length * nn := by rw [← flat_len hl xs]; exact (List.getElem?_eq_some_iff.1 hj).1
      have hq : j / nn < xs.length := (Nat.div_lt_iff_lt_mul hn).2 hjl
      have e : j = j / nn * nn + j % nn := by rw [Nat.mul_comm]; exact (Nat.div_add_mod j nn).symm
      rw [e, flat_get hl xs _ _ hq (Nat.mod_lt j hn)] at hj
      obtain ⟨ad', cs, h2, _, h3, h4⟩ := hx.2.2 _ hq
      rw [hx0] at h2; cases h2
      have h3' : cs = enc xs[j / nn] := h3
      subst h3'
      have h5 := h4 _ _ hj
      rw [e]; exact h5
  have hr := run_append_grow_src (P := P) W T tx ty E i z hT g1 g2 s.a xs.length s.c (xs.flatMap enc) hfc y _ _ hs' (by omega) (by omega) hfit
  refine ⟨_, _, hr, ?_, ⟨some ⟨W.heap.size, 0, none⟩, grownCap W (xs.length + ys.length) s.c E⟩, ?_, ?_⟩
  · exact (⟨rfl, rfl, rfl, Nat.le_refl _, fun _ _ => rfl⟩ : Below W.heap.size W W.drew).alloc (Nat.le_refl _) _
  · simp
  · have hge := grownCap_ge W (xs.length + ys.length) s.c E
    refine sl_blockK (cs := ((xs.flatMap enc ++ ys.flatMap enc).toArray ++ Builtin.zeroCells z.cells (grownCap W (xs.length + ys.length) s.c E - (xs.length + ys.length))).toList) (T := E) (by rw [Array.toArray_toList]; exact World.alloc_heap_new W.drew _) (fun j u hj => ?_) (by rw [List.length_append]; omega) (by rw [List.length_append]; exact hlen) (Nat.le_refl _)
    rw [List.flatMap_append] at hj
    have hjl := (List.getElem?_eq_some_iff.1 hj).1
    simp only [Array.toList_append]
    rw [List.getElem?_append_left (by simpa using hjl)]; exact hj
theorem st_appG {x y : Operand} {tys : Array TypeId} {b c i : Nat} {cs : List Value} {T' : TypeId} (hty : tys = #[T, tx]) (hn : 0 < nn) (hT : P.underlying T = some (.slice E)) (hi : AI P E nn bb) (hk : P.underlying tx = some (.slice e')) (hx : Sl (kOf enc nn bb hb hl) F W s xs) (hc : s.c = xs.length) (hy : 0 < ys.length) (hlen : (xs.length + ys.length) * bb ≤ 140737488355328) (hlm : xs.length + ys.length ≤ 1000)
    (hS : St ds w W n a κ l Φ) (hB : nthB l i = some ⟨b, cs, T'⟩) (hcs : cs = ys.flatMap enc) (h1 : cs.all (·.oneCell') = true)
    (hw : Region.wanted ⟨some d, .call { callee := .builtin .append, args := #[x, y], argTypes := tys }, ty, pos, af, g⟩ (yielded ops a.tmps) = true) (hd : Nat.blt d n = true) (hx0 : ev κ x = some (.slice s.a xs.length s.c)) (hy0 : ev κ y = some (.slice (some ⟨b, 0, none⟩) ys.length c))
    (K : ∀ v W' a, (∃ s' : SV, v = .slice s'.a (xs ++ ys).length s'.c ∧ Sl (kOf enc nn bb hb hl) (fun k => W.heap.size ≤ k) W' s' (xs ++ ys)) → Below W.heap.size W W' → (∀ B ∈ l, B.b < W.heap.size) → St ds w W' n a ((d, v) :: κ) l Φ → wpListIn (Fw r) m P ops Q rest a W') :
    wpListIn (Fw r) m P ops Q (⟨some d, .call { callee := .builtin .append, args := #[x, y], argTypes := tys }, ty, pos, af, g⟩ :: rest) a W := by
  subst hty
  subst hcs
  have hs : Src P nn tx (.slice (some ⟨b, 0, none⟩) ys.length c) ys.length (ys.flatMap enc) W := src_own hk hS hB (flat_len hl ys) h1
  obtain ⟨u, W1, q1, q2, q3⟩ := runs_appG (P := P) (ty := ty) hn hT hi hx hc hs hy hlen hlm
  refine wl_op hw (by simp) (v := u) (W' := W1) ?_ (K u W1 _ q3 q2 (fun B hB => hS.lt hB) ((hS.grow q2).put hd u))
  simp only [execOp]
  simp [resolve, invoke, builtin, hS.ev hx0, hS.ev hy0, q1]
end

/-! ### speeds -/
def onBest (r : Rot) (a : Air) : Bool := onHas r a && lies r.level.Y a.weight.lo a.weight.hi
def onFast (r : Rot) (a : Air) : Bool := onBest r a && liesT r.never a.weight a.temp
theorem first_lies {t : Tab} (h : tabOk t = true) (p : Span) : liesT t (one (ix t.X 0)) p = lies t.Y p.lo p.hi := by
  have hX := (tab_axes h).1
  have h1 := hX.le (Nat.zero_le (t.X.length - 1)) (by have := hX.two; omega)
  unfold liesT
  have e : lies t.X (one (ix t.X 0)).lo (one (ix t.X 0)).hi = true := by
    unfold lies one lastOf
    rw [decide_eq_true (Int.le_refl _), decide_eq_true h1]; rfl
  rw [e, Bool.true_and]
theorem best_rate {r : Rot} {a : Air} (hr : rotOk r = true) (h : onBest r a = true) {s : Int} (h1 : ix r.level.X 0 ≤ s) (h2 : s ≤ lastOf r.level.X) : onRate r a s = true := by
  simp only [onBest, Bool.and_eq_true] at h
  have hl : liesT r.level (one s) a.weight = true := by
    unfold liesT
    rw [h.2, Bool.and_true]
    simp only [lies, one, Bool.and_eq_true]
    exact ⟨decide_eq_true h1, decide_eq_true h2⟩
  simp only [onRate, onLevel, Bool.and_eq_true]
  exact ⟨h.1, one_lies (rot_p hr).level.1 hl, hl⟩
theorem rate_on {r : Rot} {a : Air} {s : Int} (h : onRate r a s = true) : ix r.level.X 0 ≤ s ∧ s ≤ lastOf r.level.X := by
  simp only [onRate, onLevel, liesT, lies, one, Bool.and_eq_true] at h
  exact ⟨of_decide_eq_true h.2.2.1.1, of_decide_eq_true h.2.2.1.2⟩
/-- The first greatest of k + 1 numbers. -/
def bestW (f : Int → Int) (x0 : Int) : Nat → Int × Int
  | 0 => (x0, f x0)
  | k + 1 => if f (x0 + (k + 1 : Nat)) > (bestW f x0 k).2 then (x0 + (k + 1 : Nat), f (x0 + (k + 1 : Nat))) else bestW f x0 k
theorem bestW_top {f : Int → Int} {x0 : Int} : ∀ (k : Nat) (s : Int), x0 ≤ s → s ≤ x0 + k → f s ≤ (bestW f x0 k).2 ∧ (f s = (bestW f x0 k).2 → (bestW f x0 k).1 ≤ s)
  | 0, s, h1, h2 => by
    have e : s = x0 := by omega
    subst e; exact ⟨Int.le_refl _, fun _ => Int.le_refl _⟩
  | k + 1, s, h1, h2 => by
    simp only [bestW]
    by_cases hc : f (x0 + (k + 1 : Nat)) > (bestW f x0 k).2
    · rw [if_pos hc]
      by_cases e : s = x0 + (k + 1 : Nat)
      · subst e; exact ⟨Int.le_refl _, fun _ => Int.le_refl _⟩
      · have := (bestW_top (f := f) k s h1 (by omega)).1
        exact ⟨by omega, fun h => by dsimp only at h; omega⟩
    · rw [if_neg hc]
      by_cases e : s = x0 + (k + 1 : Nat)
      · subst e
        have hb := bestW_in (f := f) (x0 := x0) k
        exact ⟨by omega, fun _ => by omega⟩
      · exact bestW_top (f := f) k s h1 (by omega)
where
  bestW_in {f : Int → Int} {x0 : Int} : ∀ k : Nat, x0 ≤ (bestW f x0 k).1 ∧ (bestW f x0 k).1 ≤ x0 + k
  | 0 => ⟨Int.le_refl _, by simp [bestW]⟩
  | k + 1 => by
    simp only [bestW]
    by_cases hc : f (x0 + (k + 1 : Nat)) > (bestW f x0 k).2
    · rw [if_pos hc]; dsimp only; omega
    · rw [if_neg hc]; have := bestW_in (f := f) (x0 := x0) k; omega
def bestOf (r : Rot) (a : Air) : Int × Int := bestW (rateOf r a) (ix r.level.X 0) (lastOf r.level.X - ix r.level.X 0).toNat
def bestE (r : Rot) (a : Air) : Int := errC r a (onBest r a)
def bestS (r : Rot) (a : Air) : Int := if bestE r a = 0 then (bestOf r a).1 else 0
def bestR (r : Rot) (a : Air) : Int := if bestE r a = 0 then (bestOf r a).2 else 0
theorem best_top {r : Rot} {a : Air} (h : bestE r a = 0) {s : Int} (h1 : ix r.level.X 0 ≤ s) (h2 : s ≤ lastOf r.level.X) : rateOf r a s ≤ bestR r a ∧ (rateOf r a s = bestR r a → bestS r a ≤ s) := by
  unfold bestR bestS
  rw [if_pos h, if_pos h]
  exact bestW_top _ s h1 (by omega)
/-- The greatest speed at which it does not sink. -/
def fastTop (r : Rot) (a : Air) : Int := min2 (lastOf r.level.X) (bnd r.never a.weight a.temp).lo
def fastOf (r : Rot) (a : Air) : Int := topW (fun s => decide (0 ≤ rateOf r a s)) (ix r.level.X 0) (fastTop r a - ix r.level.X 0 + 1).toNat
def fastE (r : Rot) (a : Air) : Int := if errC r a (onFast r a) = 0 then (if fastOf r a < ix r.level.X 0 then 3 else 0) else errC r a (onFast r a)
def fastV (r : Rot) (a : Air) : Int := if fastE r a = 0 then fastOf r a else 0
theorem topW_hit {P : Int → Bool} {lo s : Int} : ∀ {k : Nat}, lo ≤ s → s < lo + k → P s = true → (∀ j, s < j → j < lo + k → P j = false) → topW P lo k = s
  | 0, h1, h2, _, _ => by omega
  | k + 1, h1, h2, h3, h4 => by
    simp only [topW]
    by_cases e : s = lo + k
    · subst e; rw [if_pos h3]
    · rw [if_neg (by rw [h4 (lo + k) (by omega) (by omega)]; decide)]
      exact topW_hit h1 (by omega) h3 fun j h5 h6 => h4 j h5 (by omega)
theorem topW_none {P : Int → Bool} {lo : Int} : ∀ {k : Nat}, (∀ j, lo ≤ j → j < lo + k → P j = false) → topW P lo k = lo - 1
  | 0, _ => rfl
  | k + 1, h => by
    simp only [topW]
    rw [if_neg (by rw [h (lo + k) (by omega) (by omega)]; decide)]
    exact topW_none fun j h1 h2 => h j h1 (by omega)
theorem topW_spec {P : Int → Bool} {lo : Int} : ∀ (k : Nat), (topW P lo k = lo - 1 ∨ (lo ≤ topW P lo k ∧ topW P lo k < lo + k ∧ P (topW P lo k) = true)) ∧ ∀ j, topW P lo k < j → j < lo + k → lo ≤ j → P j = false
  | 0 => ⟨.inl rfl, fun j h1 h2 h3 => by omega⟩
  | k + 1 => by
    simp only [topW]
    by_cases hc : P (lo + k) = true
    · rw [if_pos hc]; exact ⟨.inr ⟨by omega, by omega, hc⟩, fun j h1 h2 h3 => by omega⟩
    · rw [if_neg hc]
      obtain ⟨h1, h2⟩ := topW_spec (P := P) (lo := lo) k
      refine ⟨h1.imp id fun h => ⟨h.1, by omega, h.2.2⟩, fun j h3 h4 h5 => ?_⟩
      by_cases e : j = lo + k
      · subst e; simpa using hc
      · exact h2 j h3 (by omega) h5
theorem fast_ok {r : Rot} {a : Air} (h : fastE r a = 0) : errC r a (onFast r a) = 0 ∧ fastV r a = fastOf r a ∧ ix r.level.X 0 ≤ fastOf r a ∧ fastOf r a ≤ fastTop r a ∧ ∀ j, fastOf r a < j → j ≤ fastTop r a → rateOf r a j < 0 := by
  have hv : fastV r a = fastOf r a := if_pos h
  unfold fastE at h
  by_cases h1 : errC r a (onFast r a) = 0
  · rw [if_pos h1] at h
    by_cases h2 : fastOf r a < ix r.level.X 0
    · rw [if_pos h2] at h; cases h
    · obtain ⟨h3, h4⟩ := topW_spec (P := fun s => decide (0 ≤ rateOf r a s)) (lo := ix r.level.X 0) (fastTop r a - ix r.level.X 0 + 1).toNat
      have h3' : ix r.level.X 0 ≤ fastOf r a ∧ fastOf r a < ix r.level.X 0 + ((fastTop r a - ix r.level.X 0 + 1).toNat : Int) := by
        rcases h3 with h3 | h3
        · unfold fastOf at h2; omega
        · exact ⟨h3.1, h3.2.1⟩
      refine ⟨h1, hv, h3'.1, by omega, fun j h5 h6 => ?_⟩
      have := h4 j h5 (by omega) (by omega)
      simpa using this
  · rw [if_neg h1] at h; exact absurd h h1
theorem fast_hit {r : Rot} {a : Air} {s : Int} (h0 : errC r a (onFast r a) = 0) (h1 : ix r.level.X 0 ≤ s) (h2 : s ≤ fastTop r a) (h3 : 0 ≤ rateOf r a s) (h4 : ∀ j, s < j → j ≤ fastTop r a → rateOf r a j < 0) : fastE r a = 0 ∧ fastV r a = s := by
  have e : fastOf r a = s := topW_hit h1 (by omega) (by simpa using h3) fun j h5 h6 => by simpa using h4 j h5 (by omega)
  have e1 : fastE r a = 0 := by unfold fastE; rw [if_pos h0, e, if_neg (by omega)]
  exact ⟨e1, by unfold fastV; rw [if_pos e1, e]⟩
theorem fast_none {r : Rot} {a : Air} (h0 : errC r a (onFast r a) = 0) (h4 : ∀ j, ix r.level.X 0 ≤ j → j ≤ fastTop r a → rateOf r a j < 0) : fastE r a = 3 ∧ fastV r a = 0 := by
  have e : fastOf r a = ix r.level.X 0 - 1 := topW_none fun j h5 h6 => by simpa using h4 j h5 (by omega)
  have e1 : fastE r a = 3 := by unfold fastE; rw [if_pos h0, e, if_pos (by omega)]
  exact ⟨e1, by unfold fastV; rw [e1]; rfl⟩
theorem bestW_first {f : Int → Int} {x0 : Int} : (x0 + ((0 : Nat) : Int), f (x0 + ((0 : Nat) : Int))) = bestW f x0 0 := by simp [bestW]
theorem bestW_step {f : Int → Int} {x0 : Int} {i : Nat} {p q : Int} (h1 : 1 ≤ i) (hb : (p, q) = bestW f x0 (i - 1)) : (f (x0 + (i : Int)) > q → (x0 + (i : Int), f (x0 + (i : Int))) = bestW f x0 i) ∧ (¬ f (x0 + (i : Int)) > q → (p, q) = bestW f x0 i) := by
  obtain ⟨j, rfl⟩ : ∃ j, i = j + 1 := ⟨i - 1, by omega⟩
  rw [Nat.add_sub_cancel] at hb
  have hq : (bestW f x0 j).2 = q := by rw [← hb]
  refine ⟨fun h => ?_, fun h => ?_⟩
  · rw [bestW, if_pos (by rw [hq]; exact h)]
  · rw [bestW, if_neg (by rw [hq]; exact h)]; exact hb
theorem fastTop_le (r : Rot) (a : Air) : fastTop r a ≤ lastOf r.level.X ∧ fastTop r a ≤ (bnd r.never a.weight a.temp).lo ∧ (fastTop r a = lastOf r.level.X ∨ fastTop r a = (bnd r.never a.weight a.temp).lo) := by
  unfold fastTop min2; split <;> omega
end Go.Proofs.YtdnodlgebpnfoaaGreat
