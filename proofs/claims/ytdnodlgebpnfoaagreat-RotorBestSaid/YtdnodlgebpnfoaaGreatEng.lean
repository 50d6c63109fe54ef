/- The engine of these walks: one lemma for each kind of operation, over worlds of which only what lies in one's own blocks is told. No function of the program is named here. -/
import Derived.RangeFuncNested
import Derived.RangeFuncCalls
import Derived.OrdersIn
import Derived.Deep.Quiet
import Derived.Below
import Derived.Laws.CopyRow
import Derived.Laws.AppendOwn
import Derived.Shelf.Abstract
import Derived.WalkKit
import Derived.KernelRfl
namespace Go.Proofs.YtdnodlgebpnfoaaGreat
open Go Go.RowKit Go.Shelf
/-- How what is known of a branch is read. -/
theorem ty : (∀ (p : Prop) [Decidable p], (decide p = true) = p) ∧ (∀ (p : Prop) [Decidable p], (decide p = false) = ¬p) ∧ (∀ b : Bool, ((!b) = true) = (b = false)) ∧ (∀ b : Bool, ((!b) = false) = (b = true)) ∧ (∀ x y : Int, ((x == y) = true) = (x = y)) ∧ (∀ x y : Int, ((x == y) = false) = ¬x = y) ∧ (∀ x y : Int, ((x != y) = true) = ¬x = y) ∧ (∀ x y : Int, ((x != y) = false) = (x = y)) ∧
    (∀ x y : Bool, ((x == y) = true) = (x = y)) ∧ (∀ x y : Bool, ((x == y) = false) = ¬x = y) ∧ (∀ x y : Bool, ((x != y) = true) = ¬x = y) ∧ (∀ x y : Bool, ((x != y) = false) = (x = y)) ∧ (∀ x y : Int, (¬x ≤ y) = (y < x)) ∧ (∀ x y : Int, (¬x < y) = (y ≤ x)) ∧ (∀ x y : Int, (x ≥ y) = (y ≤ x)) ∧ (∀ x y : Int, (x > y) = (y < x)) :=
  ⟨fun p _ => by simp, fun p _ => by simp, fun b => by simp, fun b => by simp, fun x y => by simp, fun x y => by simp, fun x y => by simp, fun x y => by simp, fun x y => by simp, fun x y => by simp, fun x y => by simp, fun x y => by simp, fun x y => by simp, fun x y => by simp, fun x y => by simp, fun x y => by simp⟩

/-- Any function may be entered, to any depth; inside a round of a range over a function or not. -/
def Fw (r : Option Nat) : Fence := { fn := fun _ => True, depth := none, alive := false, round := r }
theorem Fw_none : Fw none = Fence.wide := rfl
theorem Fw_in (l : Nat) : (Fence.wide).inRound l = Fw (some l) := rfl

/-! ### what is known of the temporaries -/
abbrev KV := List (Nat × Value)
def lk : KV → Nat → Option Value
  | [], _ => none
  | (s, v) :: κ, t => bif Nat.beq s t then some v else lk κ t
def ev (κ : KV) : Operand → Option Value
  | .tmp t => lk κ t
  | .const v => some v
  | .global g => some (.pointer (some ⟨g, 0, none⟩))
  | .func f => some (.func (.func f) #[] #[])
def evs (κ : KV) : List Operand → Option (List Value)
  | [] => some []
  | x :: xs => match ev κ x, evs κ xs with
    | some v, some vs => some (v :: vs)
    | _, _ => none

/-- A block of one's own: its number, its cells, its elements' type. -/
structure Blk where
  b : Nat
  cs : List Value
  T : TypeId

/-- W' is as W but for blocks of l, and new ones. -/
structure Off (l : List Blk) (W W' : World) : Prop where
  os : W'.os = W.os
  tape : W'.tape = W.tape
  output : W'.output = W.output
  same : ∀ k, k < W.heap.size → (∀ b ∈ l, k ≠ b.b) → W'.heap[k]? = W.heap[k]?
def mark (D : Nat) : Deferred := { target := .collected D, args := #[] }
/-- The deferred calls of a frame: the marks of the ranges over functions that lie behind. -/
def Df (ds : List Nat) (w W : World) (a : Act) : Prop := a.defers = ds.map mark ∧ ∀ D ∈ ds, w.heap.size ≤ D ∧ W.heap[D]? = some (.deferred (some []))

/-- What is known in the middle of a function: w the world at its call, W the world now, a its frame of n temporaries. -/
structure St (ds : List Nat) (w W : World) (n : Nat) (a : Act) (κ : KV) (l : List Blk) (Φ : World → Prop) : Prop where
  size : a.tmps.size = n
  defers : Df ds w W a
  get : ∀ t v, lk κ t = some v → a.tmps.getD t undef = v
  below : Below w.heap.size w W
  blk : ∀ b ∈ l, W.heap[b.b]? = some (.cells b.cs.toArray b.T (0, 0))
  old : ∀ b ∈ l, w.heap.size ≤ b.b
  dist : l.Pairwise (fun x y => x.b ≠ y.b)
  fact : ∀ W', Off l W W' → W.heap.size ≤ W'.heap.size → Φ W'

section
variable {ds : List Nat} {w W W' : World} {n : Nat} {a : Act} {κ κ' : KV} {l l' : List Blk} {Φ Ψ : World → Prop}

theorem St.ev (h : St ds w W n a κ l Φ) {x : Operand} {v : Value} (hx : ev κ x = some v) : a.eval x = v := by
  cases x with
  | tmp t => exact h.get t v hx
  | const u => exact Option.some.inj hx
  | global g => exact Option.some.inj hx
  | func f => exact Option.some.inj hx
theorem St.evs (h : St ds w W n a κ l Φ) : ∀ {xs : List Operand} {vs : List Value}, evs κ xs = some vs → xs.map a.eval = vs
  | [], vs, hx => by simp only [Go.Proofs.YtdnodlgebpnfoaaGreat.evs, Option.some.injEq] at hx; subst hx; rfl
  | x :: xs, vs, hx => by
    simp only [Go.Proofs.YtdnodlgebpnfoaaGreat.evs] at hx
    cases h1 : Go.Proofs.YtdnodlgebpnfoaaGreat.ev κ x with
    | none => rw [h1] at hx; cases hx
    | some v =>
      cases h2 : Go.Proofs.YtdnodlgebpnfoaaGreat.evs κ xs with
      | none => rw [h1, h2] at hx; cases hx
      | some us =>
        rw [h1, h2] at hx
        simp only [Option.some.injEq] at hx
        subst hx
        rw [List.map_cons, h.ev h1, St.evs h h2]
theorem St.now (h : St ds w W n a κ l Φ) : Φ W := h.fact W ⟨rfl, rfl, rfl, fun _ _ _ => rfl⟩ (Nat.le_refl _)

theorem lk_put {d t : Nat} {u v : Value} (h : lk ((d, u) :: κ) t = some v) : (d = t ∧ u = v) ∨ (d ≠ t ∧ lk κ t = some v) := by
  simp only [lk] at h
  cases hb : Nat.beq d t with
  | true => rw [hb] at h; exact .inl ⟨Nat.eq_of_beq_eq_true hb, by simpa using h⟩
  | false => rw [hb] at h; exact .inr ⟨Nat.ne_of_beq_eq_false hb, h⟩
theorem getD_put {ts : Array Value} {d t : Nat} {u : Value} (hd : d < ts.size) : (ts.setIfInBounds d u).getD t undef = if d = t then u else ts.getD t undef := by
  simp only [Array.getD_eq_getD_getElem?, Array.getElem?_setIfInBounds]
  split
  · subst_vars; simp
  · rfl
theorem St.put (h : St ds w W n a κ l Φ) {d : Nat} (hd : Nat.blt d n = true) (u : Value) : St ds w W n (a.put (some d) u) ((d, u) :: κ) l Φ := by
  have hd' : d < a.tmps.size := by rw [h.size]; exact Nat.blt_eq.mp hd
  refine ⟨by simpa [Act.put] using h.size, h.defers, ?_, h.below, h.blk, h.old, h.dist, h.fact⟩
  intro t v ht
  rw [show (a.put (some d) u).tmps = a.tmps.setIfInBounds d u from rfl, getD_put hd']
  rcases lk_put ht with ⟨e, hu⟩ | ⟨e, hu⟩
  · rw [if_pos e]; exact hu
  · rw [if_neg e]; exact h.get t v hu
theorem St.putNone (h : St ds w W n a κ l Φ) (u : Value) : St ds w W n (a.put none u) κ l Φ := h

/-- Known less. -/
def Sub (κ' κ : KV) : Prop := ∀ t v, lk κ' t = some v → lk κ t = some v
theorem Sub.nil : Sub [] κ := fun _ _ h => by cases h
theorem Sub.cons {t : Nat} {v : Value} (h : lk κ t = some v) (hs : Sub κ' κ) : Sub ((t, v) :: κ') κ := by
  intro s u hu
  rcases lk_put hu with ⟨rfl, rfl⟩ | ⟨_, hu⟩
  · exact h
  · exact hs s u hu
theorem St.sub (h : St ds w W n a κ l Φ) (hs : Sub κ' κ) : St ds w W n a κ' l Φ := ⟨h.size, h.defers, fun t v ht => h.get t v (hs t v ht), h.below, h.blk, h.old, h.dist, h.fact⟩
/-- Fewer blocks of one's own. -/
theorem St.drop (h : St ds w W n a κ l Φ) (hs : l'.Sublist l) : St ds w W n a κ l' Φ := ⟨h.size, h.defers, h.get, h.below, fun b hb => h.blk b (hs.subset hb), fun b hb => h.old b (hs.subset hb), h.dist.sublist hs,
  fun W' ho hz => h.fact W' ⟨ho.os, ho.tape, ho.output, fun k hk hn => ho.same k hk (fun b hb => hn b (hs.subset hb))⟩ hz⟩
/-- A fact more, that leans on no block of one's own. -/
theorem St.more (h : St ds w W n a κ l Φ) (hp : ∀ W', Off l W W' → W.heap.size ≤ W'.heap.size → Ψ W') : St ds w W n a κ l (fun W => Φ W ∧ Ψ W) := ⟨h.size, h.defers, h.get, h.below, h.blk, h.old, h.dist, fun W' ho hz => ⟨h.fact W' ho hz, hp W' ho hz⟩⟩
theorem St.less (h : St ds w W n a κ l Φ) (hp : ∀ W, Φ W → Ψ W) : St ds w W n a κ l Ψ := ⟨h.size, h.defers, h.get, h.below, h.blk, h.old, h.dist, fun W' ho hz => hp _ (h.fact W' ho hz)⟩

theorem Off.refl (l : List Blk) (W : World) : Off l W W := ⟨rfl, rfl, rfl, fun _ _ _ => rfl⟩
theorem Df.grow {ds : List Nat} {w W W' : World} {a : Act} (h : Df ds w W a) (hb : Below W.heap.size W W') : Df ds w W' a := ⟨h.1, fun D hD => ⟨(h.2 D hD).1, by rw [hb.block D (Array.getElem?_eq_some_iff.1 (h.2 D hD).2).1]; exact (h.2 D hD).2⟩⟩
/-- Any step that leaves all that was there. -/
theorem St.grow (h : St ds w W n a κ l Φ) (hb : Below W.heap.size W W') : St ds w W' n a κ l Φ := by
  refine ⟨h.size, h.defers.grow hb, h.get, ?_, fun b hm => ?_, h.old, h.dist, fun W2 ho hz => ?_⟩
  · exact h.below.trans (hb.mono h.below.size)
  · have hlt : b.b < W.heap.size := (Array.getElem?_eq_some_iff.1 (h.blk b hm)).1
    rw [hb.block b.b hlt]; exact h.blk b hm
  · refine h.fact W2 ⟨ho.os.trans hb.os, ho.tape.trans hb.tape, ho.output.trans hb.output, fun k hk hn => ?_⟩ (Nat.le_trans hb.size hz)
    rw [ho.same k (Nat.lt_of_lt_of_le hk hb.size) hn, hb.block k hk]
theorem St.lt (h : St ds w W n a κ l Φ) {b : Blk} (hm : b ∈ l) : b.b < W.heap.size := (Array.getElem?_eq_some_iff.1 (h.blk b hm)).1
/-- A new block. -/
theorem St.alloc (h : St ds w W n a κ l Φ) (cs : List Value) (T : TypeId) : St ds w (W.alloc (.cells cs.toArray T)) n a κ (⟨W.heap.size, cs, T⟩ :: l) Φ := by
  have hb : Below W.heap.size W (W.alloc (.cells cs.toArray T)) := (Below.refl _ _).alloc (Nat.le_refl _) _
  have h1 := h.grow hb
  refine ⟨h1.size, h1.defers, h1.get, h1.below, ?_, ?_, ?_, ?_⟩
  · intro b hm
    rcases List.mem_cons.1 hm with rfl | hm
    · exact World.alloc_heap_new W _
    · exact h1.blk b hm
  · intro b hm
    rcases List.mem_cons.1 hm with rfl | hm
    · exact h.below.size
    · exact h.old b hm
  · refine List.Pairwise.cons (fun b hm => ?_) h.dist
    have := h.lt hm
    show W.heap.size ≠ b.b
    omega
  · intro W2 ho hz
    refine h.fact W2 ⟨ho.os.trans hb.os, ho.tape.trans hb.tape, ho.output.trans hb.output, fun k hk hn => ?_⟩ (Nat.le_trans hb.size hz)
    rw [ho.same k (Nat.lt_of_lt_of_le hk hb.size) ?_, hb.block k hk]
    intro b hm
    rcases List.mem_cons.1 hm with rfl | hm
    · show k ≠ W.heap.size
      omega
    · exact hn b hm
/-- One of one's own blocks is written. -/
theorem St.write {l1 l2 : List Blk} {B : Blk} (h : St ds w W n a κ (l1 ++ B :: l2) Φ) (cs : List Value) : St ds w (W.setRow B.b cs.toArray) n a κ (l1 ++ ⟨B.b, cs, B.T⟩ :: l2) Φ := by
  have hB := h.blk B (by simp)
  have hlt := h.lt (b := B) (by simp)
  have hk : ∀ k, k ≠ B.b → (W.setRow B.b cs.toArray).heap[k]? = W.heap[k]? := fun k hk => by
    simp only [World.setRow, Array.getElem?_modify]
    rw [if_neg (fun e => hk e.symm)]
  have hsz : (W.setRow B.b cs.toArray).heap.size = W.heap.size := by simp [World.setRow]
  have hd := List.pairwise_append.1 h.dist
  have hd2 := List.pairwise_cons.1 hd.2.1
  refine ⟨h.size, ⟨h.defers.1, fun D hD => ⟨(h.defers.2 D hD).1, ?_⟩⟩, h.get, ?_, ?_, ?_, ?_, ?_⟩
  · have h2 := (h.defers.2 D hD).2
    rw [hk D (fun e => by rw [e, hB] at h2; cases h2)]; exact h2
  · exact h.below.trans ⟨rfl, rfl, rfl, Nat.le_of_eq hsz.symm, fun k hlt' => hk k (by have := h.old B (by simp); omega)⟩
  · intro b hm
    have hb : b.b = B.b → b = ⟨B.b, cs, B.T⟩ := by
      intro e
      rcases List.mem_append.1 hm with hm | hm
      · exact absurd e (hd.2.2 b hm B (by simp))
      · rcases List.mem_cons.1 hm with rfl | hm
        · rfl
        · exact absurd e.symm (hd2.1 b hm)
    by_cases e : b.b = B.b
    · rw [hb e]
      exact setRow_heap W B.b _ _ B.T _ hB
    · rw [hk b.b e]
      have : b ∈ l1 ++ B :: l2 := by
        rcases List.mem_append.1 hm with hm | hm
        · exact List.mem_append_left _ hm
        · rcases List.mem_cons.1 hm with rfl | hm
          · exact absurd rfl e
          · exact List.mem_append_right _ (List.mem_cons_of_mem _ hm)
      exact h.blk b this
  · intro b hm
    rcases List.mem_append.1 hm with hm | hm
    · exact h.old b (List.mem_append_left _ hm)
    · rcases List.mem_cons.1 hm with rfl | hm
      · exact h.old B (by simp)
      · exact h.old b (List.mem_append_right _ (List.mem_cons_of_mem _ hm))
  · refine List.pairwise_append.2 ⟨hd.1, List.pairwise_cons.2 ⟨fun x hx => hd2.1 x hx, hd2.2⟩, ?_⟩
    intro x hx y hy
    rcases List.mem_cons.1 hy with rfl | hy
    · exact hd.2.2 x hx B (by simp)
    · exact hd.2.2 x hx y (List.mem_cons_of_mem _ hy)
  · intro W2 ho hz
    refine h.fact W2 ⟨ho.os, ho.tape, ho.output, fun k hlt' hn => ?_⟩ (by rw [hsz] at hz; exact hz)
    have h1 : k ≠ B.b := hn B (by simp)
    rw [ho.same k (by rw [hsz]; exact hlt') ?_, hk k h1]
    intro b hm
    rcases List.mem_append.1 hm with hm | hm
    · exact hn b (List.mem_append_left _ hm)
    · rcases List.mem_cons.1 hm with rfl | hm
      · exact h1
      · exact hn b (List.mem_append_right _ (List.mem_cons_of_mem _ hm))
end
end Go.Proofs.YtdnodlgebpnfoaaGreat
