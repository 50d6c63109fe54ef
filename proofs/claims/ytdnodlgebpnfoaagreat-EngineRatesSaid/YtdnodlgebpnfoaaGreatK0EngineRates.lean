/- What the proof of EngineRates leans on, part 0: plain mathematics, the engine of the walks, the walks. -/
import Derived.RangeFuncNested
import Derived.RangeFuncCalls
import Derived.OrdersIn
import Derived.Deep.Quiet
import Derived.Below
import Derived.Laws.CopyRow
import Derived.Laws.AppendOwn
import Derived.Shelf.Abstract
import Derived.WalkKit
import Derived.KernelRfl
import Derived.Deep.AppendSrc
import Derived.Laws.StructEq
import Derived.RangeFuncLeaves
import Derived.MapKept
import Derived.LoopNIn
import Derived.Deep.Slices
import Derived.SizedLaws
import Derived.OpenShut
import Derived.ProofKit
import Derived.ShutString
import Derived.ChangeOld
import Derived.JoinedOf
import Derived.Test.YtdnodlgebpnfoaaGreatRows
import Derived.Test.YtdnodlgebpnfoaaGreatProg
import Derived.Test.YtdnodlgebpnfoaaGreatFactLaid
import Derived.Test.YtdnodlgebpnfoaaGreatFactMay
import Derived.Test.YtdnodlgebpnfoaaGreatFactLift
import Derived.Test.YtdnodlgebpnfoaaGreatFactMake
set_option linter.unusedVariables false
set_option linter.unusedSimpArgs false
set_option linter.unnecessarySimpa false
namespace Go.Proofs.YtdnodlgebpnfoaaGreat
open Go Go.RowKit Go.Shelf
theorem ty : (∀ (p : Prop) [Decidable p], (decide p = true) = p) ∧ (∀ (p : Prop) [Decidable p], (decide p = false) = ¬p) ∧ (∀ b : Bool, ((!b) = true) = (b = false)) ∧ (∀ b : Bool, ((!b) = false) = (b = true)) ∧ (∀ x y : Int, ((x == y) = true) = (x = y)) ∧ (∀ x y : Int, ((x == y) = false) = ¬x = y) ∧ (∀ x y : Int, ((x != y) = true) = ¬x = y) ∧ (∀ x y : Int, ((x != y) = false) = (x = y)) ∧
    (∀ x y : Bool, ((x == y) = true) = (x = y)) ∧ (∀ x y : Bool, ((x == y) = false) = ¬x = y) ∧ (∀ x y : Bool, ((x != y) = true) = ¬x = y) ∧ (∀ x y : Bool, ((x != y) = false) = (x = y)) ∧ (∀ x y : Int, (¬x ≤ y) = (y < x)) ∧ (∀ x y : Int, (¬x < y) = (y ≤ x)) ∧ (∀ x y : Int, (x ≥ y) = (y ≤ x)) ∧ (∀ x y : Int, (x > y) = (y < x)) :=
  ⟨fun p _ => by simp, fun p _ => by simp, fun b => by simp, fun b => by simp, fun x y => by simp, fun x y => by simp, fun x y => by simp, fun x y => by simp, fun x y => by simp, fun x y => by simp, fun x y => by simp, fun x y => by simp, fun x y => by simp, fun x y => by simp, fun x y => by simp, fun x y => by simp⟩
def Fw (r : Option Nat) : Fence := { fn := fun _ => True, depth := none, alive := false, round := r }
abbrev KV := List (Nat × Value)
def lk : KV → Nat → Option Value
  | [], _ => none
  | (s, v) :: κ, t => bif Nat.beq s t then some v else lk κ t
def ev (κ : KV) : Operand → Option Value
  | .tmp t => lk κ t
  | .const v => some v
  | .global g => some (.pointer (some ⟨g, 0, none⟩))
  | .func f => some (.func (.func f) #[] #[])
def evs (κ : KV) : List Operand → Option (List Value)
  | [] => some []
  | x :: xs => match ev κ x, evs κ xs with
    | some v, some vs => some (v :: vs)
    | _, _ => none
structure Blk where
  b : Nat
  cs : List Value
  T : TypeId
structure Off (l : List Blk) (W W' : World) : Prop where
  os : W'.os = W.os
  tape : W'.tape = W.tape
  output : W'.output = W.output
  same : ∀ k, k < W.heap.size → (∀ b ∈ l, k ≠ b.b) → W'.heap[k]? = W.heap[k]?
def mark (D : Nat) : Deferred := { target := .collected D, args := #[] }
def Df (ds : List Nat) (w W : World) (a : Act) : Prop := a.defers = ds.map mark ∧ ∀ D ∈ ds, w.heap.size ≤ D ∧ W.heap[D]? = some (.deferred (some []))
structure St (ds : List Nat) (w W : World) (n : Nat) (a : Act) (κ : KV) (l : List Blk) (Φ : World → Prop) : Prop where
  size : a.tmps.size = n
  defers : Df ds w W a
  get : ∀ t v, lk κ t = some v → a.tmps.getD t undef = v
  below : Below w.heap.size w W
  blk : ∀ b ∈ l, W.heap[b.b]? = some (.cells b.cs.toArray b.T (0, 0))
  old : ∀ b ∈ l, w.heap.size ≤ b.b
  dist : l.Pairwise (fun x y => x.b ≠ y.b)
  fact : ∀ W', Off l W W' → W.heap.size ≤ W'.heap.size → Φ W'
section
variable {ds : List Nat} {w W W' : World} {n : Nat} {a : Act} {κ κ' : KV} {l l' : List Blk} {Φ Ψ : World → Prop}
theorem St.ev (h : St ds w W n a κ l Φ) {x : Operand} {v : Value} (hx : ev κ x = some v) : a.eval x = v := by
  cases x with
  | tmp t => exact h.get t v hx
  | const u => exact Option.some.inj hx
  | global g => exact Option.some.inj hx
  | func f => exact Option.some.inj hx
theorem St.evs (h : St ds w W n a κ l Φ) : ∀ {xs : List Operand} {vs : List Value}, evs κ xs = some vs → xs.map a.eval = vs
  | [], vs, hx => by simp only [Go.Proofs.YtdnodlgebpnfoaaGreat.evs, Option.some.injEq] at hx; subst hx; rfl
  | x :: xs, vs, hx => by
    simp only [Go.Proofs.YtdnodlgebpnfoaaGreat.evs] at hx
    cases h1 : Go.Proofs.YtdnodlgebpnfoaaGreat.ev κ x with
    | none => rw [h1] at hx; cases hx
    | some v =>
      cases h2 : Go.Proofs.YtdnodlgebpnfoaaGreat.evs κ xs with
      | none => rw [h1, h2] at hx; cases hx
      | some us =>
        rw [h1, h2] at hx
        simp only [Option.some.injEq] at hx
        subst hx
        rw [List.map_cons, h.ev h1, St.evs h h2]
theorem St.now (h : St ds w W n a κ l Φ) : Φ W := h.fact W ⟨rfl, rfl, rfl, fun _ _ _ => rfl⟩ (Nat.le_refl _)
theorem lk_put {d t : Nat} {u v : Value} (h : lk ((d, u) :: κ) t = some v) : (d = t ∧ u = v) ∨ (d ≠ t ∧ lk κ t = some v) := by
  simp only [lk] at h
  cases hb : Nat.beq d t with
  | true => rw [hb] at h; exact .inl ⟨Nat.eq_of_beq_eq_true hb, by simpa using h⟩
  | false => rw [hb] at h; exact .inr ⟨Nat.ne_of_beq_eq_false hb, h⟩
theorem getD_put {ts : Array Value} {d t : Nat} {u : Value} (hd : d < ts.size) : (ts.setIfInBounds d u).getD t undef = if d = t then u else ts.getD t undef := by
  simp only [Array.getD_eq_getD_getElem?, Array.getElem?_setIfInBounds]
  split
  · subst_vars; simp
  · rfl
theorem St.put (h : St ds w W n a κ l Φ) {d : Nat} (hd : Nat.blt d n = true) (u : Value) : St ds w W n (a.put (some d) u) ((d, u) :: κ) l Φ := by
  have hd' : d < a.tmps.size := by rw [h.size]; exact Nat.blt_eq.mp hd
  refine ⟨by simpa [Act.put] using h.size, h.defers, ?_, h.below, h.blk, h.old, h.dist, h.fact⟩
  intro t v ht
  rw [show (a.put (some d) u).tmps = a.tmps.setIfInBounds d u from rfl, getD_put hd']
  rcases lk_put ht with ⟨e, hu⟩ | ⟨e, hu⟩
  · rw [if_pos e]; exact hu
  · rw [if_neg e]; exact h.get t v hu
def Sub (κ' κ : KV) : Prop := ∀ t v, lk κ' t = some v → lk κ t = some v
theorem Sub.nil : Sub [] κ := fun _ _ h => by cases h
theorem Sub.cons {t : Nat} {v : Value} (h : lk κ t = some v) (hs : Sub κ' κ) : Sub ((t, v) :: κ') κ := by
  intro s u hu
  rcases lk_put hu with ⟨rfl, rfl⟩ | ⟨_, hu⟩
  · exact h
  · exact hs s u hu
theorem St.sub (h : St ds w W n a κ l Φ) (hs : Sub κ' κ) : St ds w W n a κ' l Φ := ⟨h.size, h.defers, fun t v ht => h.get t v (hs t v ht), h.below, h.blk, h.old, h.dist, h.fact⟩
theorem St.drop (h : St ds w W n a κ l Φ) (hs : l'.Sublist l) : St ds w W n a κ l' Φ := ⟨h.size, h.defers, h.get, h.below, fun b hb => h.blk b (hs.subset hb), fun b hb => h.old b (hs.subset hb), h.dist.sublist hs,
  fun W' ho hz => h.fact W' ⟨ho.os, ho.tape, ho.output, fun k hk hn => ho.same k hk (fun b hb => hn b (hs.subset hb))⟩ hz⟩
theorem St.more (h : St ds w W n a κ l Φ) (hp : ∀ W', Off l W W' → W.heap.size ≤ W'.heap.size → Ψ W') : St ds w W n a κ l (fun W => Φ W ∧ Ψ W) := ⟨h.size, h.defers, h.get, h.below, h.blk, h.old, h.dist, fun W' ho hz => ⟨h.fact W' ho hz, hp W' ho hz⟩⟩
theorem St.less (h : St ds w W n a κ l Φ) (hp : ∀ W, Φ W → Ψ W) : St ds w W n a κ l Ψ := ⟨h.size, h.defers, h.get, h.below, h.blk, h.old, h.dist, fun W' ho hz => hp _ (h.fact W' ho hz)⟩
theorem Off.refl (l : List Blk) (W : World) : Off l W W := ⟨rfl, rfl, rfl, fun _ _ _ => rfl⟩
theorem Df.grow {ds : List Nat} {w W W' : World} {a : Act} (h : Df ds w W a) (hb : Below W.heap.size W W') : Df ds w W' a := ⟨h.1, fun D hD => ⟨(h.2 D hD).1, by rw [hb.block D (Array.getElem?_eq_some_iff.1 (h.2 D hD).2).1]; exact (h.2 D hD).2⟩⟩
theorem St.grow (h : St ds w W n a κ l Φ) (hb : Below W.heap.size W W') : St ds w W' n a κ l Φ := by
  refine ⟨h.size, h.defers.grow hb, h.get, ?_, fun b hm => ?_, h.old, h.dist, fun W2 ho hz => ?_⟩
  · exact h.below.trans (hb.mono h.below.size)
  · have hlt : b.b < W.heap.size := (Array.getElem?_eq_some_iff.1 (h.blk b hm)).1
    rw [hb.block b.b hlt]; exact h.blk b hm
  · refine h.fact W2 ⟨ho.os.trans hb.os, ho.tape.trans hb.tape, ho.output.trans hb.output, fun k hk hn => ?_⟩ (Nat.le_trans hb.size hz)
    rw [ho.same k (Nat.lt_of_lt_of_le hk hb.size) hn, hb.block k hk]
theorem St.lt (h : St ds w W n a κ l Φ) {b : Blk} (hm : b ∈ l) : b.b < W.heap.size := (Array.getElem?_eq_some_iff.1 (h.blk b hm)).1
theorem St.alloc (h : St ds w W n a κ l Φ) (cs : List Value) (T : TypeId) : St ds w (W.alloc (.cells cs.toArray T)) n a κ (⟨W.heap.size, cs, T⟩ :: l) Φ := by
  have hb : Below W.heap.size W (W.alloc (.cells cs.toArray T)) := (Below.refl _ _).alloc (Nat.le_refl _) _
  have h1 := h.grow hb
  refine ⟨h1.size, h1.defers, h1.get, h1.below, ?_, ?_, ?_, ?_⟩
  · intro b hm
    rcases List.mem_cons.1 hm with rfl | hm
    · exact World.alloc_heap_new W _
    · exact h1.blk b hm
  · intro b hm
    rcases List.mem_cons.1 hm with rfl | hm
    · exact h.below.size
    · exact h.old b hm
  · refine List.Pairwise.cons (fun b hm => ?_) h.dist
    have := h.lt hm
    show W.heap.size ≠ b.b
    omega
  · intro W2 ho hz
    refine h.fact W2 ⟨ho.os.trans hb.os, ho.tape.trans hb.tape, ho.output.trans hb.output, fun k hk hn => ?_⟩ (Nat.le_trans hb.size hz)
    rw [ho.same k (Nat.lt_of_lt_of_le hk hb.size) ?_, hb.block k hk]
    intro b hm
    rcases List.mem_cons.1 hm with rfl | hm
    · show k ≠ W.heap.size
      omega
    · exact hn b hm
theorem St.write {l1 l2 : List Blk} {B : Blk} (h : St ds w W n a κ (l1 ++ B :: l2) Φ) (cs : List Value) : St ds w (W.setRow B.b cs.toArray) n a κ (l1 ++ ⟨B.b, cs, B.T⟩ :: l2) Φ := by
  have hB := h.blk B (by simp)
  have hlt := h.lt (b := B) (by simp)
  have hk : ∀ k, k ≠ B.b → (W.setRow B.b cs.toArray).heap[k]? = W.heap[k]? := fun k hk => by
    simp only [World.setRow, Array.getElem?_modify]
    rw [if_neg (fun e => hk e.symm)]
  have hsz : (W.setRow B.b cs.toArray).heap.size = W.heap.size := by simp [World.setRow]
  have hd := List.pairwise_append.1 h.dist
  have hd2 := List.pairwise_cons.1 hd.2.1
  refine ⟨h.size, ⟨h.defers.1, fun D hD => ⟨(h.defers.2 D hD).1, ?_⟩⟩, h.get, ?_, ?_, ?_, ?_, ?_⟩
  · have h2 := (h.defers.2 D hD).2
    rw [hk D (fun e => by rw [e, hB] at h2; cases h2)]; exact h2
  · exact h.below.trans ⟨rfl, rfl, rfl, Nat.le_of_eq hsz.symm, fun k hlt' => hk k (by have := h.old B (by simp); omega)⟩
  · intro b hm
    have hb : b.b = B.b → b = ⟨B.b, cs, B.T⟩ := by
      intro e
      rcases List.mem_append.1 hm with hm | hm
      · exact absurd e (hd.2.2 b hm B (by simp))
      · rcases List.mem_cons.1 hm with rfl | hm
        · rfl
        · exact absurd e.symm (hd2.1 b hm)
    by_cases e : b.b = B.b
    · rw [hb e]
      exact setRow_heap W B.b _ _ B.T _ hB
    · rw [hk b.b e]
      have : b ∈ l1 ++ B :: l2 := by
        rcases List.mem_append.1 hm with hm | hm
        · exact List.mem_append_left _ hm
        · rcases List.mem_cons.1 hm with rfl | hm
          · exact absurd rfl e
          · exact List.mem_append_right _ (List.mem_cons_of_mem _ hm)
      exact h.blk b this
  · intro b hm
    rcases List.mem_append.1 hm with hm | hm
    · exact h.old b (List.mem_append_left _ hm)
    · rcases List.mem_cons.1 hm with rfl | hm
      · exact h.old B (by simp)
      · exact h.old b (List.mem_append_right _ (List.mem_cons_of_mem _ hm))
  · refine List.pairwise_append.2 ⟨hd.1, List.pairwise_cons.2 ⟨fun x hx => hd2.1 x hx, hd2.2⟩, ?_⟩
    intro x hx y hy
    rcases List.mem_cons.1 hy with rfl | hy
    · exact hd.2.2 x hx B (by simp)
    · exact hd.2.2 x hx y (List.mem_cons_of_mem _ hy)
  · intro W2 ho hz
    refine h.fact W2 ⟨ho.os, ho.tape, ho.output, fun k hlt' hn => ?_⟩ (by rw [hsz] at hz; exact hz)
    have h1 : k ≠ B.b := hn B (by simp)
    rw [ho.same k (by rw [hsz]; exact hlt') ?_, hk k h1]
    intro b hm
    rcases List.mem_append.1 hm with hm | hm
    · exact hn b (List.mem_append_left _ hm)
    · rcases List.mem_cons.1 hm with rfl | hm
      · exact h1
      · exact hn b (List.mem_append_right _ (List.mem_cons_of_mem _ hm))
end
end Go.Proofs.YtdnodlgebpnfoaaGreat
namespace Go.Proofs.YtdnodlgebpnfoaaGreat
open Go Go.RowKit Go.Shelf
section
variable {P : Program} {r : Option Nat} {m : Nat} {ops : Array Oper} {Q : Exit → Act → World → Prop} {rest : List Oper} {o : Oper}
  {ds : List Nat} {w W W' : World} {n d : Nat} {a : Act} {κ : KV} {l l1 l2 : List Blk} {Φ : World → Prop} {x y c : Operand} {v u : Value} {ty T T2 : TypeId} {pos : String} {af : Array Edge} {g : Option (Nat × Bool)}
theorem wl_op (hw : Region.wanted o (yielded ops a.tmps) = true) (hdf : ∀ c, o.op ≠ .defer c) (hr : (execOp a.eval o).run P W = .ok (.value v) W')
    (K : wpListIn (Fw r) m P ops Q rest (a.put o.dst v) W') : wpListIn (Fw r) m P ops Q (o :: rest) a W := by
  unfold wpListIn
  rw [if_pos hw]
  refine ⟨fun _ _ => trivial, ?_⟩
  rw [Oper.semAt_eq _ _ _ hdf, hr]
  exact K
theorem wl_unit (hw : Region.wanted o (yielded ops a.tmps) = true) (hdf : ∀ c, o.op ≠ .defer c) (hr : (execOp a.eval o).run P W = .ok .skip W')
    (K : wpListIn (Fw r) m P ops Q rest (a.put o.dst undef) W') : wpListIn (Fw r) m P ops Q (o :: rest) a W := by
  unfold wpListIn
  rw [if_pos hw]
  refine ⟨fun _ _ => trivial, ?_⟩
  rw [Oper.semAt_eq _ _ _ hdf, hr]
  exact K
theorem wl_enter {f : FuncId} {args : Array Value} {R : Ending → World → Prop} (hw : Region.wanted o (yielded ops a.tmps) = true) (hdf : ∀ c, o.op ≠ .defer c)
    (hr : (execOp a.eval o).run P W = .ok (.enter f args) W) (hc : Calls P f args W R)
    (K : ∀ e W', R e W' → ∃ v, e = .returned v ∧ wpListIn (Fw r) m P ops Q rest (a.put o.dst v) W') : wpListIn (Fw r) m P ops Q (o :: rest) a W := by
  unfold wpListIn
  rw [if_pos hw]
  refine ⟨fun _ _ => trivial, ?_⟩
  rw [Oper.semAt_eq _ _ _ hdf, hr]
  refine ⟨fun h => by simp [Fw] at h, ?_⟩
  have h1 : CallsIn Fence.wide (m - 1) P f args W (fun e W' => match e with
    | .returned v => wpListIn (Fw r) m P ops Q rest (a.put o.dst v) W'
    | .panicked chain => Q (.panic chain) a W'
    | .outgrown => LetsOut Q) := callsIn_wide.2 (hc.mono fun e W' he => by
      obtain ⟨v, rfl, h⟩ := K e W' he
      exact h)
  cases r with
  | none => exact CallsIn.mono h1 (fun e W' he => by cases e <;> exact he)
  | some i => exact CallsIn.mono (h1.inRound i) (fun e W' he => by cases e <;> exact he)
theorem wl_skip (hw : Region.wanted o (yielded ops a.tmps) = false) (K : wpListIn (Fw r) m P ops Q rest (a.put o.dst undef) W) : wpListIn (Fw r) m P ops Q (o :: rest) a W := by
  unfold wpListIn
  rw [if_neg (by rw [hw]; simp)]
  exact ⟨fun _ _ => trivial, K⟩
theorem St.yields (hS : St ds w W n a κ l Φ) {j : Nat} {b : Bool} (hj : (ops[j]?).bind (·.dst) = some d) (hv : lk κ d = some (.bool b)) : yielded ops a.tmps j = some b := by
  have h := hS.get d _ hv
  unfold yielded
  rw [hj]
  simp only [Option.bind_some]
  rw [Array.getD_eq_getD_getElem?] at h
  cases hq : a.tmps[d]? with
  | none => rw [hq] at h; simp [undef] at h
  | some u => rw [hq] at h; simp only [Option.getD_some] at h; rw [h]
theorem St.wanted (hS : St ds w W n a κ l Φ) {j : Nat} {b : Bool} (hg : o.guard = some (j, b)) (hj : (ops[j]?).bind (·.dst) = some d) (hv : lk κ d = some (.bool b)) : Region.wanted o (yielded ops a.tmps) = true := by
  simp [Region.wanted, hg, hS.yields hj hv]
theorem St.unwanted (hS : St ds w W n a κ l Φ) {j : Nat} {b b' : Bool} (hg : o.guard = some (j, b)) (hj : (ops[j]?).bind (·.dst) = some d) (hv : lk κ d = some (.bool b')) (hne : (b' == b) = false) : Region.wanted o (yielded ops a.tmps) = false := by
  simp only [Region.wanted, hg, hS.yields hj hv]
  simpa using hne
theorem St.unwantedU (hS : St ds w W n a κ l Φ) {j : Nat} {b : Bool} (hg : o.guard = some (j, b)) (hj : (ops[j]?).bind (·.dst) = some d) (hv : lk κ d = some undef) : Region.wanted o (yielded ops a.tmps) = false := by
  have h := hS.get d _ hv
  have h2 : yielded ops a.tmps j = none := by
    unfold yielded
    rw [hj]
    simp only [Option.bind_some]
    rw [Array.getD_eq_getD_getElem?] at h
    cases hq : a.tmps[d]? with
    | none => rfl
    | some u => rw [hq] at h; simp only [Option.getD_some] at h; rw [h]; rfl
  simp [Region.wanted, hg, h2]
theorem st_skip {op : Op} (hS : St ds w W n a κ l Φ) (hw : Region.wanted ⟨some d, op, ty, pos, af, g⟩ (yielded ops a.tmps) = false) (hd : Nat.blt d n = true)
    (K : ∀ a, St ds w W n a ((d, undef) :: κ) l Φ → wpListIn (Fw r) m P ops Q rest a W) : wpListIn (Fw r) m P ops Q (⟨some d, op, ty, pos, af, g⟩ :: rest) a W :=
  wl_skip hw (K _ (hS.put hd undef))
theorem St.know (hS : St ds w W n a κ l Φ) {b b' : Bool} (hv : lk κ d = some (.bool b)) (hb : b = b') : St ds w W n a ((d, .bool b') :: κ) l Φ := by
  subst hb
  refine ⟨hS.size, hS.defers, fun t u ht => ?_, hS.below, hS.blk, hS.old, hS.dist, hS.fact⟩
  rcases lk_put ht with ⟨rfl, rfl⟩ | ⟨_, hu⟩
  · exact hS.get _ _ hv
  · exact hS.get _ _ hu
theorem st_split {b : Bool} {G : Prop} (hS : St ds w W n a κ l Φ) (hv : lk κ d = some (.bool b)) (ht : b = true → St ds w W n a ((d, .bool true) :: κ) l Φ → G) (hf : b = false → St ds w W n a ((d, .bool false) :: κ) l Φ → G) : G := by
  cases b
  · exact hf rfl (hS.know hv rfl)
  · exact ht rfl (hS.know hv rfl)
theorem St.turn (hS : St ds w W n a κ l Φ) {v v' : Value} (hv : lk κ d = some v) (hb : v = v') : St ds w W n a ((d, v') :: κ) l Φ := by
  subst hb
  refine ⟨hS.size, hS.defers, fun t u ht => ?_, hS.below, hS.blk, hS.old, hS.dist, hS.fact⟩
  rcases lk_put ht with ⟨rfl, rfl⟩ | ⟨_, hu⟩
  · exact hS.get _ _ hv
  · exact hS.get _ _ hu
theorem St.turnB (hS : St ds w W n a κ l Φ) {p q : Bool} (hv : lk κ d = some (.bool p)) (hb : p = q) : St ds w W n a ((d, .bool q) :: κ) l Φ := hS.turn hv (by rw [hb])
theorem st_v {op : Op} (hS : St ds w W n a κ l Φ) (hw : Region.wanted ⟨some d, op, ty, pos, af, g⟩ (yielded ops a.tmps) = true) (hd : Nat.blt d n = true)
    (hr : (execOp a.eval ⟨some d, op, ty, pos, af, g⟩).run P W = .ok (.value v) W)
    (K : ∀ a, St ds w W n a ((d, v) :: κ) l Φ → wpListIn (Fw r) m P ops Q rest a W) : wpListIn (Fw r) m P ops Q (⟨some d, op, ty, pos, af, g⟩ :: rest) a W := by
  refine wl_op hw ?_ hr (K _ (hS.put hd v))
  rintro c hc
  rw [show op = .defer c from hc] at hr
  simp only [execOp, Sem.run_bind] at hr
  cases hq : (resolve a.eval c ty).run P W with
  | ok x w' => rw [hq] at hr; simp at hr
  | halt x w' => rw [hq] at hr; simp at hr
theorem run_move (hS : St ds w W n a κ l Φ) (hx : ev κ x = some v) : (execOp a.eval ⟨some d, .move x, ty, pos, af, g⟩).run P W = .ok (.value v) W := by simp only [execOp, hS.ev hx]; rfl
theorem run_assign (hS : St ds w W n a κ l Φ) (hx : ev κ x = some v) : (execOp a.eval ⟨some d, .assign x, ty, pos, af, g⟩).run P W = .ok (.value v) W := by simp only [execOp, hS.ev hx]; rfl
theorem run_pick_t (hS : St ds w W n a κ l Φ) (hc : ev κ c = some (.bool true)) (hx : ev κ x = some v) : (execOp a.eval ⟨some d, .pick c x y, ty, pos, af, g⟩).run P W = .ok (.value v) W := by simp only [execOp, hS.ev hx, hS.ev hc]; rfl
theorem run_pick_f (hS : St ds w W n a κ l Φ) (hc : ev κ c = some (.bool false)) (hy : ev κ y = some v) : (execOp a.eval ⟨some d, .pick c x y, ty, pos, af, g⟩).run P W = .ok (.value v) W := by simp only [execOp, hS.ev hy, hS.ev hc]; rfl
def bin (op : BinOp) (k : IntKind) (p q : Int) : Option Value := match op with
  | .add => some (.int k (k.wrap (p + q)))
  | .sub => some (.int k (k.wrap (p - q)))
  | .mul => some (.int k (k.wrap (p * q)))
  | .eql => some (.bool (p == q))
  | .neq => some (.bool (p != q))
  | .lss => some (.bool (decide (p < q)))
  | .leq => some (.bool (decide (p ≤ q)))
  | .gtr => some (.bool (decide (p > q)))
  | .geq => some (.bool (decide (p ≥ q)))
  | _ => none
theorem runs_bin {op : BinOp} {k : IntKind} {p q : Int} (h : bin op k p q = some v) (T : TypeId) (x y : Operand) :
    (do eqGuard op T x y (.int k p) (.int k q); binOp op T (.int k p) (.int k q) : Sem Value).run P W = .ok v W := by
  cases op <;> simp only [bin, Option.some.injEq, reduceCtorEq] at h <;> subst h <;> simp [eqGuard, binOp, Op.intArith, Op.intCmp]
theorem run_bin {op : BinOp} {k : IntKind} {p q : Int} (hS : St ds w W n a κ l Φ) (hx : ev κ x = some (.int k p)) (hy : ev κ y = some (.int k q)) (hv : bin op k p q = some v) : (execOp a.eval ⟨some d, .binOp op T x y T2, ty, pos, af, g⟩).run P W = .ok (.value v) W := by
  have h := runs_bin (P := P) (W := W) hv T x y
  simp only [execOp, hS.ev hx, hS.ev hy]
  rw [Sem.run_bind, h]
  rfl
theorem run_quo {k : IntKind} {p q : Int} (hS : St ds w W n a κ l Φ) (hx : ev κ x = some (.int k p)) (hy : ev κ y = some (.int k q)) (hq : q ≠ 0) : (execOp a.eval ⟨some d, .binOp .quo T x y T2, ty, pos, af, g⟩).run P W = .ok (.value (.int k (k.wrap (p.tdiv q)))) W := by
  simp [execOp, hS.ev hx, hS.ev hy, eqGuard, binOp, Op.intDiv, hq]
theorem run_rem {k : IntKind} {p q : Int} (hS : St ds w W n a κ l Φ) (hx : ev κ x = some (.int k p)) (hy : ev κ y = some (.int k q)) (hq : q ≠ 0) : (execOp a.eval ⟨some d, .binOp .rem T x y T2, ty, pos, af, g⟩).run P W = .ok (.value (.int k (p.tmod q))) W := by
  simp [execOp, hS.ev hx, hS.ev hy, eqGuard, binOp, Op.intDiv, hq]
theorem run_test {op : BinOp} (hS : St ds w W n a κ l Φ) {vx vy : Value} (hx : ev κ x = some vx) (hy : ev κ y = some vy) (hv : ∀ W, (do eqGuard op T x y vx vy; binOp op T vx vy : Sem Value).run P W = .ok v W) : (execOp a.eval ⟨some d, .binOp op T x y T2, ty, pos, af, g⟩).run P W = .ok (.value v) W := by
  have h := hv W
  simp only [execOp, hS.ev hx, hS.ev hy]
  rw [Sem.run_bind, h]
  rfl
theorem run_not {b : Bool} (hS : St ds w W n a κ l Φ) (hx : ev κ x = some (.bool b)) : (execOp a.eval ⟨some d, .unOp .not T x, ty, pos, af, g⟩).run P W = .ok (.value (.bool (!b))) W := by simp only [execOp, hS.ev hx]; rfl
theorem run_neg {k : IntKind} {p : Int} (hS : St ds w W n a κ l Φ) (hx : ev κ x = some (.int k p)) : (execOp a.eval ⟨some d, .unOp .neg T x, ty, pos, af, g⟩).run P W = .ok (.value (.int k (k.wrap (0 - p)))) W := by simp only [execOp, hS.ev hx]; rfl
theorem run_extract {vs : Array Value} {i : Nat} (hS : St ds w W n a κ l Φ) (hx : ev κ x = some (.tuple vs)) (hv : vs[i]? = some v) : (execOp a.eval ⟨some d, .extract x i, ty, pos, af, g⟩).run P W = .ok (.value v) W := by simp [execOp, hS.ev hx, Instr.extract, hv]
theorem run_nilCheck {p : Addr} (hS : St ds w W n a κ l Φ) (hx : ev κ x = some (.pointer (some p))) : (execOp a.eval ⟨some d, .nilCheck x, ty, pos, af, g⟩).run P W = .ok (.value (.pointer (some p))) W := by simp only [execOp, hS.ev hx]; rfl
theorem run_makeFunc {fn : Fn} {fi cap : Array Operand} {vf vc : List Value} (hS : St ds w W n a κ l Φ) (hf : evs κ fi.toList = some vf) (hc : evs κ cap.toList = some vc) : (execOp a.eval ⟨some d, .makeFunc fn fi cap, ty, pos, af, g⟩).run P W = .ok (.value (.func fn vf.toArray vc.toArray)) W := by
  have h1 : fi.map a.eval = vf.toArray := by rw [← hS.evs hf, ← Array.toList_map]
  have h2 : cap.map a.eval = vc.toArray := by rw [← hS.evs hc, ← Array.toList_map]
  simp only [execOp, h1, h2]
  rfl
theorem run_len_slice {A : Option Addr} {k cp : Nat} {E : TypeId} (hT : P.underlying T = some (.slice E)) (hS : St ds w W n a κ l Φ) (hx : ev κ x = some (.slice A k cp)) : (execOp a.eval ⟨some d, .call { callee := .builtin .len, args := #[x], argTypes := #[T] }, ty, pos, af, g⟩).run P W = .ok (.value (.int .i64 (k : Int))) W := by
  simp [execOp, resolve, invoke, builtin, hS.ev hx, Builtin.len_, run_underlying hT, goInt]
def min2 (p q : Int) : Int := if q < p then q else p
def max2 (p q : Int) : Int := if q > p then q else p
theorem run_min {k : IntKind} {p q : Int} {tys : Array TypeId} (hS : St ds w W n a κ l Φ) (hx : ev κ x = some (.int k p)) (hy : ev κ y = some (.int k q)) : (execOp a.eval ⟨some d, .call { callee := .builtin .min, args := #[x, y], argTypes := tys }, ty, pos, af, g⟩).run P W = .ok (.value (.int k (min2 p q))) W := by
  simp [execOp, resolve, invoke, builtin, hS.ev hx, hS.ev hy, Builtin.min_, Builtin.min2, min2]
theorem run_max {k : IntKind} {p q : Int} {tys : Array TypeId} (hS : St ds w W n a κ l Φ) (hx : ev κ x = some (.int k p)) (hy : ev κ y = some (.int k q)) : (execOp a.eval ⟨some d, .call { callee := .builtin .max, args := #[x, y], argTypes := tys }, ty, pos, af, g⟩).run P W = .ok (.value (.int k (max2 p q))) W := by
  simp [execOp, resolve, invoke, builtin, hS.ev hx, hS.ev hy, Builtin.max_, Builtin.max2, max2]
end
end Go.Proofs.YtdnodlgebpnfoaaGreat
namespace Go.Proofs.YtdnodlgebpnfoaaGreat
open Go Go.RowKit Go.Shelf
def nth : List Value → Nat → Option Value
  | [], _ => none
  | v :: _, 0 => some v
  | _ :: vs, k + 1 => nth vs k
def nthB : List Blk → Nat → Option Blk
  | [], _ => none
  | B :: _, 0 => some B
  | _ :: Bs, k + 1 => nthB Bs k
def setB : List Blk → Nat → List Value → List Blk
  | [], _, _ => []
  | B :: Bs, 0, cs => ⟨B.b, cs, B.T⟩ :: Bs
  | B :: Bs, k + 1, cs => B :: setB Bs k cs
def Seg (cs : List Value) : Nat → List Value → Prop
  | _, [] => True
  | off, v :: vs => nth cs off = some v ∧ Seg cs (off + 1) vs
theorem nth_eq : ∀ (cs : List Value) (k : Nat), nth cs k = cs[k]?
  | [], _ => by simp [nth]
  | v :: vs, 0 => by simp [nth]
  | v :: vs, k + 1 => by simp [nth, nth_eq vs k]
theorem Seg.get {cs : List Value} : ∀ {vs : List Value} {off : Nat}, Seg cs off vs → ∀ j v, vs[j]? = some v → cs[off + j]? = some v
  | [], _, _, j, v, h => by simp at h
  | u :: us, off, hs, 0, v, h => by
    simp only [List.getElem?_cons_zero, Option.some.injEq] at h
    subst h
    have := hs.1
    rw [nth_eq] at this
    simpa using this
  | u :: us, off, hs, j + 1, v, h => by
    have := Seg.get hs.2 j v (by simpa using h)
    rwa [show off + (j + 1) = off + 1 + j by omega]
theorem nthB_mem : ∀ {l : List Blk} {i : Nat} {B : Blk}, nthB l i = some B → ∃ l1 l2, l = l1 ++ B :: l2 ∧ ∀ cs, setB l i cs = l1 ++ ⟨B.b, cs, B.T⟩ :: l2
  | [], i, B, h => by simp [nthB] at h
  | C :: l, 0, B, h => by
    simp only [nthB, Option.some.injEq] at h
    subst h
    exact ⟨[], l, rfl, fun cs => rfl⟩
  | C :: l, i + 1, B, h => by
    obtain ⟨l1, l2, rfl, h2⟩ := nthB_mem (l := l) (i := i) h
    exact ⟨C :: l1, l2, rfl, fun cs => by simp [setB, h2 cs]⟩
theorem nthB_in {l : List Blk} {i : Nat} {B : Blk} (h : nthB l i = some B) : B ∈ l := by
  obtain ⟨l1, l2, rfl, _⟩ := nthB_mem h
  simp
theorem add_off (b off j : Nat) : (⟨b, off, none⟩ : Addr).add j = ⟨b, off + j, none⟩ := by unfold Addr.add; split <;> simp_all
def Ret (P : Program) (f : FuncId) (args : List Value) (W : World) (R : Value → World → Prop) : Prop :=
  Calls P f args.toArray W fun e W' => ∃ v, e = .returned v ∧ Below W.heap.size W W' ∧ R v W'
theorem Ret.mono {P : Program} {f : FuncId} {args : List Value} {W : World} {R R' : Value → World → Prop} (h : Ret P f args W R) (hr : ∀ v W', Below W.heap.size W W' → R v W' → R' v W') : Ret P f args W R' :=
  Calls.mono h fun _ _ ⟨v, e, hb, hR⟩ => ⟨v, e, hb, hr v _ hb hR⟩
def evp (κ : KV) : List (Nat × Operand) → Option (List (Nat × Value))
  | [] => some []
  | (i, x) :: xs => match ev κ x, evp κ xs with
    | some v, some vs => some ((i, v) :: vs)
    | _, _ => none
def enumFrom (k : Nat) : List Value → KV
  | [] => []
  | v :: vs => (k, v) :: enumFrom (k + 1) vs
section
variable {P : Program} {r : Option Nat} {m : Nat} {ops : Array Oper} {Q : Exit → Act → World → Prop} {rest : List Oper} {o : Oper}
  {ds : List Nat} {w W W' : World} {n d : Nat} {a : Act} {κ : KV} {l l1 l2 : List Blk} {Φ : World → Prop} {x y c : Operand} {v u : Value} {ty T T2 : TypeId} {pos : String} {af : Array Edge} {g : Option (Nat × Bool)}
theorem St.evp (h : St ds w W n a κ l Φ) : ∀ {xs : List (Nat × Operand)} {vs : List (Nat × Value)}, evp κ xs = some vs → xs.map (fun p => (p.1, a.eval p.2)) = vs
  | [], vs, hx => by simp only [Go.Proofs.YtdnodlgebpnfoaaGreat.evp, Option.some.injEq] at hx; subst hx; rfl
  | (i, x) :: xs, vs, hx => by
    simp only [Go.Proofs.YtdnodlgebpnfoaaGreat.evp] at hx
    cases h1 : Go.Proofs.YtdnodlgebpnfoaaGreat.ev κ x with
    | none => rw [h1] at hx; cases hx
    | some v =>
      cases h2 : Go.Proofs.YtdnodlgebpnfoaaGreat.evp κ xs with
      | none => rw [h1, h2] at hx; cases hx
      | some us =>
        rw [h1, h2] at hx
        simp only [Option.some.injEq] at hx
        subst hx
        rw [List.map_cons, h.ev h1, St.evp h h2]
theorem st_box_agg {cs : List Value} (hS : St ds w W n a κ l Φ) (hw : Region.wanted ⟨some d, .box T x, ty, pos, af, g⟩ (yielded ops a.tmps) = true) (hd : Nat.blt d n = true) (hx : ev κ x = some (.agg cs.toArray))
    (K : ∀ W a b, St ds w W n a ((d, .pointer (some ⟨b, 0, none⟩)) :: κ) (⟨b, cs, T⟩ :: l) Φ → wpListIn (Fw r) m P ops Q rest a W) : wpListIn (Fw r) m P ops Q (⟨some d, .box T x, ty, pos, af, g⟩ :: rest) a W :=
  wl_op hw (by simp) (v := .pointer (some ⟨W.heap.size, 0, none⟩)) (W' := W.alloc (.cells cs.toArray T)) (by
    simp only [execOp, hS.ev hx]
    simp [Instr.box, newVar, newRow, Value.cells, newObj, Sem.run]) (K _ _ _ ((hS.alloc cs T).put hd _))
theorem st_box_one (hS : St ds w W n a κ l Φ) (hw : Region.wanted ⟨some d, .box T x, ty, pos, af, g⟩ (yielded ops a.tmps) = true) (hd : Nat.blt d n = true) (hx : ev κ x = some v) (hv : v.cells = #[v])
    (K : ∀ W a b, St ds w W n a ((d, .pointer (some ⟨b, 0, none⟩)) :: κ) (⟨b, [v], T⟩ :: l) Φ → wpListIn (Fw r) m P ops Q rest a W) : wpListIn (Fw r) m P ops Q (⟨some d, .box T x, ty, pos, af, g⟩ :: rest) a W :=
  wl_op hw (by simp) (v := .pointer (some ⟨W.heap.size, 0, none⟩)) (W' := W.alloc (.cells #[v] T)) (by
    simp only [execOp, hS.ev hx]
    simp [Instr.box, newVar, newRow, hv, newObj, Sem.run]) (K _ _ _ ((hS.alloc [v] T).put hd _))
theorem st_alloc_agg {cs : List Value} (hz : ∀ w, (zeroValue T).run P w = .ok (.agg cs.toArray) w) (hS : St ds w W n a κ l Φ) (hw : Region.wanted ⟨some d, .alloc T, ty, pos, af, g⟩ (yielded ops a.tmps) = true) (hd : Nat.blt d n = true)
    (K : ∀ W a b, St ds w W n a ((d, .pointer (some ⟨b, 0, none⟩)) :: κ) (⟨b, cs, T⟩ :: l) Φ → wpListIn (Fw r) m P ops Q rest a W) : wpListIn (Fw r) m P ops Q (⟨some d, .alloc T, ty, pos, af, g⟩ :: rest) a W :=
  wl_op hw (by simp) (v := .pointer (some ⟨W.heap.size, 0, none⟩)) (W' := W.alloc (.cells cs.toArray T)) (by
    simp only [execOp]
    simp [Instr.alloc, hz W, newVar, newRow, Value.cells, newObj, Sem.run]) (K _ _ _ ((hS.alloc cs T).put hd _))
theorem st_alloc_one (hz : ∀ w, (zeroValue T).run P w = .ok v w) (hv : v.cells = #[v]) (hS : St ds w W n a κ l Φ) (hw : Region.wanted ⟨some d, .alloc T, ty, pos, af, g⟩ (yielded ops a.tmps) = true) (hd : Nat.blt d n = true)
    (K : ∀ W a b, St ds w W n a ((d, .pointer (some ⟨b, 0, none⟩)) :: κ) (⟨b, [v], T⟩ :: l) Φ → wpListIn (Fw r) m P ops Q rest a W) : wpListIn (Fw r) m P ops Q (⟨some d, .alloc T, ty, pos, af, g⟩ :: rest) a W :=
  wl_op hw (by simp) (v := .pointer (some ⟨W.heap.size, 0, none⟩)) (W' := W.alloc (.cells #[v] T)) (by
    simp only [execOp]
    simp [Instr.alloc, hz W, newVar, newRow, hv, newObj, Sem.run]) (K _ _ _ ((hS.alloc [v] T).put hd _))
theorem st_buildSlice {E : TypeId} {k : Nat} {parts : Array (Nat × Operand)} {pv : List (Nat × Value)} {cs : List Value} (hrun : ∀ W, (Instr.buildSlice T k pv.toArray).run P W = .ok (.slice (some ⟨W.heap.size, 0, none⟩) k k) (W.alloc (.cells cs.toArray E)))
    (hS : St ds w W n a κ l Φ) (hw : Region.wanted ⟨some d, .buildSlice T k parts, ty, pos, af, g⟩ (yielded ops a.tmps) = true) (hd : Nat.blt d n = true) (hp : evp κ parts.toList = some pv)
    (K : ∀ W a b, St ds w W n a ((d, .slice (some ⟨b, 0, none⟩) k k) :: κ) (⟨b, cs, E⟩ :: l) Φ → wpListIn (Fw r) m P ops Q rest a W) : wpListIn (Fw r) m P ops Q (⟨some d, .buildSlice T k parts, ty, pos, af, g⟩ :: rest) a W :=
  wl_op hw (by simp) (v := .slice (some ⟨W.heap.size, 0, none⟩) k k) (W' := W.alloc (.cells cs.toArray E)) (by
    have h1 : (parts.map fun p => (p.1, a.eval p.2)) = pv.toArray := by rw [← hS.evp hp, ← Array.toList_map]
    simp only [execOp]
    rw [show (parts.map fun (i, x) => (i, a.eval x)) = pv.toArray from h1, Sem.run_bind, hrun W]
    rfl) (K _ _ _ ((hS.alloc cs E).put hd _))
theorem run_build {parts : Array (Nat × Operand)} {pv : List (Nat × Value)} (hrun : ∀ W, (Instr.build T pv.toArray).run P W = .ok v W)
    (hS : St ds w W n a κ l Φ) (hp : evp κ parts.toList = some pv) : (execOp a.eval ⟨some d, .build T parts, ty, pos, af, g⟩).run P W = .ok (.value v) W := by
  have h1 : (parts.map fun p => (p.1, a.eval p.2)) = pv.toArray := by rw [← hS.evp hp, ← Array.toList_map]
  simp only [execOp]
  rw [show (parts.map fun (i, x) => (i, a.eval x)) = pv.toArray from h1, Sem.run_bind, hrun W]
  rfl
theorem run_fieldAddr {b off off' f : Nat} (hf : ∀ b off w, (Instr.fieldAt T (.pointer (some ⟨b, off, none⟩)) f).run P w = .ok (.pointer (some ⟨b, off + off', none⟩)) w)
    (hS : St ds w W n a κ l Φ) (hx : ev κ x = some (.pointer (some ⟨b, off, none⟩))) : (execOp a.eval ⟨some d, .fieldAddr T x f, ty, pos, af, g⟩).run P W = .ok (.value (.pointer (some ⟨b, off + off', none⟩))) W := by
  simp only [execOp, hS.ev hx]
  rw [Sem.run_bind, hf]
  rfl
theorem run_fieldAddrE {p : Addr} {off' f : Nat} (hf : ∀ (p : Addr) w, (Instr.fieldAt T (.pointer (some p)) f).run P w = .ok (.pointer (some (p.add off'))) w)
    (hS : St ds w W n a κ l Φ) (hx : ev κ x = some (.pointer (some p))) : (execOp a.eval ⟨some d, .fieldAddr T x f, ty, pos, af, g⟩).run P W = .ok (.value (.pointer (some (p.add off')))) W := by
  simp only [execOp, hS.ev hx]
  rw [Sem.run_bind, hf]
  rfl
theorem St.cell (hS : St ds w W n a κ l Φ) {i : Nat} {B : Blk} (hB : nthB l i = some B) {j : Nat} {u : Value} (hj : B.cs[j]? = some u) : W.cell? ⟨B.b, j, none⟩ = some u := by
  have := hS.blk B (nthB_in hB)
  simp [World.cell?, this, hj]
theorem run_load_one {b off i : Nat} {cs : List Value} {E : TypeId} (hT : ∀ w, (isAgg T).run P w = .ok false w) (hS : St ds w W n a κ l Φ)
    (hx : ev κ x = some (.pointer (some ⟨b, off, none⟩))) (hB : nthB l i = some ⟨b, cs, E⟩) (hv : nth cs off = some v) : (execOp a.eval ⟨some d, .load T x, ty, pos, af, g⟩).run P W = .ok (.value v) W := by
  have hc := hS.cell hB (j := off) (u := v) (by rw [← nth_eq]; exact hv)
  simp only [execOp, hS.ev hx]
  simp [Instr.loadAt, Instr.sureAddr, loadVar, hT W, load, Sem.run, hc]
theorem run_load_agg {b off i k : Nat} {cs vs : List Value} {E : TypeId} (hT : ∀ w, (isAgg T).run P w = .ok true w) (hk : ∀ w, (sizeOf T).run P w = .ok k w) (hS : St ds w W n a κ l Φ)
    (hx : ev κ x = some (.pointer (some ⟨b, off, none⟩))) (hB : nthB l i = some ⟨b, cs, E⟩) (hl : vs.length = k) (hv : Seg cs off vs) : (execOp a.eval ⟨some d, .load T x, ty, pos, af, g⟩).run P W = .ok (.value (.agg vs.toArray)) W := by
  have hc := run_loadCells_list (P := P) W ⟨b, off, none⟩ vs (fun j u hj => by rw [add_off]; exact hS.cell hB (hv.get j u hj))
  simp only [execOp, hS.ev hx]
  simp [Instr.loadAt, Instr.sureAddr, loadVar, hT W, hk W, ← hl, hc]
theorem run_load_all {b i k : Nat} {cs : List Value} {E : TypeId} (hT : ∀ w, (isAgg T).run P w = .ok true w) (hk : ∀ w, (sizeOf T).run P w = .ok k w) (hS : St ds w W n a κ l Φ)
    (hx : ev κ x = some (.pointer (some ⟨b, 0, none⟩))) (hB : nthB l i = some ⟨b, cs, E⟩) (hl : Nat.beq cs.length k = true) : (execOp a.eval ⟨some d, .load T x, ty, pos, af, g⟩).run P W = .ok (.value (.agg cs.toArray)) W := by
  have hc := run_loadCells_list (P := P) W ⟨b, 0, none⟩ cs (fun j u hj => by rw [add_off, Nat.zero_add]; exact hS.cell hB hj)
  simp only [execOp, hS.ev hx]
  simp [Instr.loadAt, Instr.sureAddr, loadVar, hT W, hk W, ← Nat.eq_of_beq_eq_true hl, hc]
theorem run_load_cell {p : Addr} (hT : ∀ w, (isAgg T).run P w = .ok false w) (hS : St ds w W n a κ l Φ) (hx : ev κ x = some (.pointer (some p))) (hc : W.cell? p = some v) : (execOp a.eval ⟨some d, .load T x, ty, pos, af, g⟩).run P W = .ok (.value v) W := by
  simp only [execOp, hS.ev hx]
  simp [Instr.loadAt, Instr.sureAddr, loadVar, hT W, load, Sem.run, hc]
theorem run_load_ext {p : Addr} {k : Nat} {vs : List Value} (hT : ∀ w, (isAgg T).run P w = .ok true w) (hk : ∀ w, (sizeOf T).run P w = .ok k w) (hS : St ds w W n a κ l Φ)
    (hx : ev κ x = some (.pointer (some p))) (hl : vs.length = k) (hc : ∀ j v, vs[j]? = some v → W.cell? (p.add j) = some v) : (execOp a.eval ⟨some d, .load T x, ty, pos, af, g⟩).run P W = .ok (.value (.agg vs.toArray)) W := by
  have hc := run_loadCells_list (P := P) W p vs hc
  simp only [execOp, hS.ev hx]
  simp [Instr.loadAt, Instr.sureAddr, loadVar, hT W, hk W, ← hl, hc]
theorem run_indexAddr {s : Option Addr} {A : Addr} {k cp : Nat} {E : TypeId} {sz : Nat} {i : Int} (hT : P.underlying T = some (.slice E)) (hz : ∀ w, (sizeOf E).run P w = .ok sz w) (hS : St ds w W n a κ l Φ)
    (hx : ev κ x = some (.slice s k cp)) (hy : ev κ y = some (.int .i64 i)) (hs : s = some A) (h0 : 0 ≤ i) (h1 : i < k) : (execOp a.eval ⟨some d, .indexAddr T x y, ty, pos, af, g⟩).run P W = .ok (.value (.pointer (some (A.add (i.toNat * sz))))) W := by
  subst hs
  simp only [execOp, hS.ev hx, hS.ev hy]
  simp [Instr.indexAt, asIntOf, run_underlying hT, hz W, h0, h1]
def splice (cs : List Value) (off : Nat) (vs : List Value) : List Value := cs.take off ++ vs ++ cs.drop (off + vs.length)
theorem st_store {b off i k : Nat} {cs vs cs' : List Value} {E : TypeId} (hk : ∀ w, (sizeOf T).run P w = .ok k w) (hS : St ds w W n a κ l Φ) (hw : Region.wanted ⟨none, .store T x y, ty, pos, af, g⟩ (yielded ops a.tmps) = true)
    (hx : ev κ x = some (.pointer (some ⟨b, off, none⟩))) (hB : nthB l i = some ⟨b, cs, E⟩) (hy : ev κ y = some v) (hvs : v.cells.toList = vs) (hl : Nat.beq vs.length k = true) (hin : Nat.ble (off + vs.length) cs.length = true) (h1 : vs.all (·.oneCell') = true) (hcs : splice cs off vs = cs')
    (K : ∀ W a, St ds w W n a κ (setB l i cs') Φ → wpListIn (Fw r) m P ops Q rest a W) : wpListIn (Fw r) m P ops Q (⟨none, .store T x y, ty, pos, af, g⟩ :: rest) a W := by
  obtain ⟨l1, l2, e1, e2⟩ := nthB_mem hB
  have hb := hS.blk _ (nthB_in hB)
  have hrun := run_storeCells_at (P := P) b off E vs 0 cs.toArray W hb (by simpa using Nat.ble_eq.mp hin) (fun u hu => List.all_eq_true.1 h1 u hu)
  subst hcs
  refine wl_unit (W' := W.setRow b (splice cs off vs).toArray) hw (by simp) ?_ (K _ _ ?_)
  · simp only [execOp, hS.ev hx, hS.ev hy]
    have hsz : v.cells.size = k := by rw [← Array.length_toList, hvs]; exact Nat.eq_of_beq_eq_true hl
    simp [Instr.storeAt, Instr.sureAddr, storeVar, hk W, hsz, hvs, hrun, splice]
  · rw [e2]
    subst e1
    exact (hS.write (B := ⟨b, cs, E⟩) _)
theorem st_call {f : FuncId} {args : Array Operand} {vs : List Value} {tys : Array TypeId} {R : Value → World → Prop} (hc : Ret P f vs W R) (hf : Enters P f) (hS : St ds w W n a κ l Φ)
    (hw : Region.wanted ⟨some d, .call { callee := .value (.func f), args := args, argTypes := tys }, ty, pos, af, g⟩ (yielded ops a.tmps) = true) (hd : Nat.blt d n = true) (hx : evs κ args.toList = some vs)
    (K : ∀ v W' a, R v W' → Below W.heap.size W W' → (∀ B ∈ l, B.b < W.heap.size) → St ds w W' n a ((d, v) :: κ) l Φ → wpListIn (Fw r) m P ops Q rest a W') :
    wpListIn (Fw r) m P ops Q (⟨some d, .call { callee := .value (.func f), args := args, argTypes := tys }, ty, pos, af, g⟩ :: rest) a W := by
  refine wl_enter (f := f) (args := vs.toArray) hw (by simp) ?_ hc ?_
  · have h1 : args.map a.eval = vs.toArray := by rw [← hS.evs hx, ← Array.toList_map]
    simp only [execOp, resolve, Act.eval, Deferred.ofValue]
    have h2 := hf vs.toArray W
    simp [invoke, h1, h2]
  · rintro e W' ⟨v, rfl, hb, hR⟩
    exact ⟨v, rfl, K v W' _ hR hb (fun B hB => hS.lt hB) ((hS.grow hb).put hd v)⟩
theorem st_callv {f : FuncId} {t : Tmp} {args : Array Operand} {vs : List Value} {fi cap : Array Value} {tys : Array TypeId} {R : Value → World → Prop} (hS : St ds w W n a κ l Φ) (ht : lk κ t = some (.func (.func f) fi cap)) (hx : evs κ args.toList = some vs) (hf : Enters P f) (hc : Ret P f (fi.toList ++ vs ++ cap.toList) W R)
    (hw : Region.wanted ⟨some d, .call { callee := .value (.tmp t), args := args, argTypes := tys }, ty, pos, af, g⟩ (yielded ops a.tmps) = true) (hd : Nat.blt d n = true)
    (K : ∀ v W' a, R v W' → Below W.heap.size W W' → (∀ B ∈ l, B.b < W.heap.size) → St ds w W' n a ((d, v) :: κ) l Φ → wpListIn (Fw r) m P ops Q rest a W') :
    wpListIn (Fw r) m P ops Q (⟨some d, .call { callee := .value (.tmp t), args := args, argTypes := tys }, ty, pos, af, g⟩ :: rest) a W := by
  refine wl_enter (f := f) (args := (fi.toList ++ vs ++ cap.toList).toArray) hw (by simp) ?_ hc ?_
  · have h1 : args.map a.eval = vs.toArray := by rw [← hS.evs hx, ← Array.toList_map]
    have h3 : a.eval (.tmp t) = .func (.func f) fi cap := hS.ev ht
    simp only [execOp, resolve, h3, Deferred.ofValue]
    have h2 := hf (fi ++ (vs.toArray ++ cap)) W
    simp [invoke, h1, h2]
  · rintro e W' ⟨v, rfl, hb, hR⟩
    exact ⟨v, rfl, K v W' _ hR hb (fun B hB => hS.lt hB) ((hS.grow hb).put hd v)⟩
def Later (W W' : World) : Prop := Below W.heap.size W W'
theorem st_draw {id : Nat} {lops : List Oper} (hm : P.follows .mixedOrders = true) (hB : Region.lexB .any lops.toArray = true) (_hS : St ds w W n a κ l Φ)
    (h : wpQuiet P lops.toArray (Later W) (fun a' => ∀ W', Later W W' → Q .normal a' W') lops a) : (Code.region id lops.toArray true).wpIn (Fw none) m P Q a W :=
  (wpIn_wide (n := m)).2 (wp_region_quiet (C := Later W) hm hB (show Below _ _ _ from ⟨rfl, rfl, rfl, Nat.le_refl _, fun _ _ => rfl⟩) (by simpa using h))
variable {QA : Act → Prop}
theorem qt_v {op : Op} (hS : St ds w W n a κ l Φ) (hw : Region.wanted ⟨some d, op, ty, pos, af, g⟩ (yielded ops a.tmps) = true) (hd : Nat.blt d n = true)
    (hr : ∀ W', Below W.heap.size W W' → St ds w W' n a κ l Φ → (execOp a.eval ⟨some d, op, ty, pos, af, g⟩).run P W' = .ok (.value v) W')
    (K : ∀ a, St ds w W n a ((d, v) :: κ) l Φ → wpQuiet P ops (Later W) QA rest a) : wpQuiet P ops (Later W) QA (⟨some d, op, ty, pos, af, g⟩ :: rest) a := by
  unfold wpQuiet
  rw [if_pos hw]
  refine ⟨v, fun W' hL => ?_, K _ (hS.put hd v)⟩
  unfold Oper.quietAt
  rw [hr W' hL (hS.grow hL)]
  exact ⟨rfl, rfl⟩
theorem qt_skip {op : Op} (hS : St ds w W n a κ l Φ) (hw : Region.wanted ⟨some d, op, ty, pos, af, g⟩ (yielded ops a.tmps) = false) (hd : Nat.blt d n = true)
    (K : ∀ a, St ds w W n a ((d, undef) :: κ) l Φ → wpQuiet P ops (Later W) QA rest a) : wpQuiet P ops (Later W) QA (⟨some d, op, ty, pos, af, g⟩ :: rest) a := by
  unfold wpQuiet
  rw [if_neg (by rw [hw]; simp)]
  exact K _ (hS.put hd undef)
theorem qt_call {f : FuncId} {args : Array Operand} {vs : List Value} {tys : Array TypeId} (hS : St ds w W n a κ l Φ) (hw : Region.wanted ⟨some d, .call { callee := .value (.func f), args := args, argTypes := tys }, ty, pos, af, g⟩ (yielded ops a.tmps) = true) (hd : Nat.blt d n = true)
    (hf : Enters P f) (hx : evs κ args.toList = some vs) (hc : ∀ W', Below W.heap.size W W' → St ds w W' n a κ l Φ → Ret P f vs W' (fun u _ => u = v))
    (K : ∀ a, St ds w W n a ((d, v) :: κ) l Φ → wpQuiet P ops (Later W) QA rest a) : wpQuiet P ops (Later W) QA (⟨some d, .call { callee := .value (.func f), args := args, argTypes := tys }, ty, pos, af, g⟩ :: rest) a := by
  unfold wpQuiet
  rw [if_pos hw]
  refine ⟨v, fun W' hL => ?_, K _ (hS.put hd v)⟩
  unfold Oper.quietAt
  have h1 : args.map a.eval = vs.toArray := by rw [← hS.evs hx, ← Array.toList_map]
  have h2 := hf vs.toArray W'
  have h3 : (execOp a.eval ⟨some d, .call { callee := .value (.func f), args := args, argTypes := tys }, ty, pos, af, g⟩).run P W' = .ok (.enter f vs.toArray) W' := by
    simp only [execOp, resolve, Act.eval, Deferred.ofValue]
    simp [invoke, h1, h2]
  rw [h3]
  refine ⟨rfl, Calls.mono (hc W' hL (hS.grow hL)) fun e W2 => ?_⟩
  rintro ⟨u, rfl, hb, rfl⟩
  exact ⟨rfl, Below.trans hL (hb.mono hL.size)⟩
theorem qt_nil (hS : St ds w W n a κ l Φ) (K : ∀ W', St ds w W' n a κ l Φ → Q .normal a W') : wpQuiet P ops (Later W) (fun a' => ∀ W', Later W W' → Q .normal a' W') [] a := fun W' hL => K W' (hS.grow hL)
variable {A B : Code} {K' : Act → World → Prop} {id : Nat}
theorem wl_nil (h : Q .normal a W) : wpListIn (Fw r) m P ops Q [] a W := h
theorem q_then (h : K' a W) : Exit.then K' Q .normal a W := h
theorem q_then_x {e : Exit} (he : e ≠ .normal) (h : Q e a W) : Exit.then K' Q e a W := by cases e <;> first | exact h | exact absurd rfl he
theorem q_ret (h : Q .ret a W) : Exit.then K' Q .ret a W := h
theorem q_block (h : Q .normal a W) : Exit.inBlock id Q .normal a W := h
theorem q_block_in (h : Q .normal a W) : Exit.inBlock id Q (.exit id) a W := by simpa [Exit.inBlock] using h
theorem q_block_ret (h : Q .ret a W) : Exit.inBlock id Q .ret a W := h
theorem st_cond_t (hS : St ds w W n a κ l Φ) (hc : ev κ c = some (.bool true)) (h : A.wpIn (Fw r) m P Q a W) : (Code.cond c A B).wpIn (Fw r) m P Q a W := wpIn_cond (hS.ev hc) h
theorem st_cond_f (hS : St ds w W n a κ l Φ) (hc : ev κ c = some (.bool false)) (h : B.wpIn (Fw r) m P Q a W) : (Code.cond c A B).wpIn (Fw r) m P Q a W := wpIn_cond (hS.ev hc) h
theorem st_cond {b : Bool} (hS : St ds w W n a κ l Φ) (hc : ev κ c = some (.bool b)) (ht : b = true → A.wpIn (Fw r) m P Q a W) (hf : b = false → B.wpIn (Fw r) m P Q a W) : (Code.cond c A B).wpIn (Fw r) m P Q a W := wpIn_cond_split (hS.ev hc) ht hf
theorem exists_min (p : Nat → Prop) (h : ∃ k, p k) : ∃ k, p k ∧ ∀ j, p j → k ≤ j := by
  obtain ⟨k, hk⟩ := h
  induction k using Nat.strongRecOn with
  | _ k ih =>
    by_cases hc : ∃ j, j < k ∧ p j
    · obtain ⟨j, hj, hp⟩ := hc
      exact ih j hj hp
    · exact ⟨k, hk, fun j hj => Nat.le_of_not_lt (fun hlt => hc ⟨j, hlt, hj⟩)⟩
theorem st_loop {α : Type} (κI : α → KV) (lI : α → List Blk) (ΦI : World → Prop) (φ : α → Prop) (μ : α → Nat) (x0 : α) (hS : St ds w W n a (κI x0) (lI x0) ΦI) (h0 : φ x0)
    (body : ∀ x W a, φ x → St ds w W n a (κI x) (lI x) ΦI → A.wpIn (Fw r) m P (Exit.then (fun a' W' => ∃ x', (φ x' ∧ μ x' < μ x) ∧ St ds w W' n a' (κI x') (lI x') ΦI) Q) a W) : (Code.loop A).wpIn (Fw r) m P Q a W := by
  classical
  have mn : ∀ a W, (∃ k x, φ x ∧ St ds w W n a (κI x) (lI x) ΦI ∧ μ x = k) → _ := fun a W h => exists_min (fun k => ∃ x, φ x ∧ St ds w W n a (κI x) (lI x) ΦI ∧ μ x = k) h
  refine wpIn_loop (fun a W => ∃ x, φ x ∧ St ds w W n a (κI x) (lI x) ΦI) (fun a W => if h : ∃ k x, φ x ∧ St ds w W n a (κI x) (lI x) ΦI ∧ μ x = k then Classical.choose (mn a W h) else 0) ⟨x0, h0, hS⟩ ?_
  rintro a W ⟨x, hφ, hS⟩
  have hex : ∃ k x, φ x ∧ St ds w W n a (κI x) (lI x) ΦI ∧ μ x = k := ⟨_, x, hφ, hS, rfl⟩
  obtain ⟨⟨x1, hφ1, hS1, hμ1⟩, _⟩ := Classical.choose_spec (mn a W hex)
  refine wpIn_mono (body x1 W a hφ1 hS1) ?_
  intro e a' W' hq
  cases e with
  | normal =>
    obtain ⟨x', ⟨hφ', hlt⟩, hS'⟩ := hq
    refine ⟨⟨x', hφ', hS'⟩, ?_⟩
    have hex' : ∃ k x, φ x ∧ St ds w W' n a' (κI x) (lI x) ΦI ∧ μ x = k := ⟨_, x', hφ', hS', rfl⟩
    simp only [hex, hex', dif_pos]
    exact Nat.lt_of_le_of_lt ((Classical.choose_spec (mn a' W' hex')).2 _ ⟨x', hφ', hS', rfl⟩) (by rw [← hμ1]; exact hlt)
  | exit => exact hq
  | goto => exact hq
  | ret => exact hq
  | panic => exact hq
  | outgrown => exact hq
theorem st_loop2 {α : Type} (κv : α → KV) (κ0 : KV) (lf : List Blk → α → List Blk) (φ : α → Prop) (μ : α → Nat) (x0 : α) (hS : St ds w W n a κ l Φ) (hκ : Sub (κv x0 ++ κ0) κ) (hl : lf l x0 = l) (h0 : φ x0)
    (body : ∀ x W a, φ x → St ds w W n a (κv x ++ κ0) (lf l x) Φ → A.wpIn (Fw r) m P (Exit.then (fun a' W' => ∃ x', (φ x' ∧ μ x' < μ x) ∧ St ds w W' n a' (κv x' ++ κ0) (lf l x') Φ) Q) a W) : (Code.loop A).wpIn (Fw r) m P Q a W :=
  st_loop (fun x => κv x ++ κ0) (lf l) Φ φ μ x0 (by rw [hl]; exact hS.sub hκ) h0 body
theorem lk_enum : ∀ (vs : List Value) (k t : Nat) (v : Value), lk (enumFrom k vs) t = some v → k ≤ t ∧ vs[t - k]? = some v
  | [], _, _, _, h => by simp [enumFrom, lk] at h
  | u :: us, k, t, v, h => by
    rcases lk_put h with ⟨rfl, rfl⟩ | ⟨hne, h⟩
    · simp
    · obtain ⟨h1, h2⟩ := lk_enum us (k + 1) t v h
      refine ⟨by omega, ?_⟩
      rw [show t - k = (t - (k + 1)) + 1 by omega]
      simpa using h2
theorem ret_start {f : FuncId} {fn : Func} {cd : Code} {args : List Value} {R : Value → World → Prop} (hf : P.funcs[f]? = some fn) (hb : fn.body = some cd) (hn : fn.ntmps = n) (hk : Nat.ble args.length n = true)
    (h : ∀ a, St [] w w n a (enumFrom 0 args) [] (fun _ => True) → cd.wpIn (Fw none) 2 P (bodyPost P fn fun e W' => ∃ v, e = .returned v ∧ Below w.heap.size w W' ∧ R v W') a w) : Ret P f args w R := by
  refine callsIn_wide.1 (callsIn_of_wp (F := Fence.wide) (n := 2) hf hb trivial ?_)
  refine h _ ⟨?_, ⟨rfl, fun D hD => (by cases hD)⟩, ?_, Below.refl _ _, fun b hb => (by cases hb), fun b hb => (by cases hb), List.Pairwise.nil, fun _ _ _ => trivial⟩
  · have := Nat.ble_eq.mp hk
    simp [hn]; omega
  · intro t v ht
    obtain ⟨_, h2⟩ := lk_enum args 0 t v ht
    have h3 : t < args.length := by
      rcases Nat.lt_or_ge t args.length with h | h
      · exact h
      · rw [List.getElem?_eq_none (by omega)] at h2; cases h2
    simp only [Array.getD_eq_getD_getElem?]
    rw [Array.getElem?_append_left (by simpa using h3)]
    simp only [List.getElem?_toArray]
    rw [Nat.sub_zero] at h2
    rw [h2]; rfl
def rv (tmps : Array Value) : ResultVar → Sem Value
  | .tmp t => pure (tmps.getD t undef)
  | .cell a t => do loadVar t (← asAddr (tmps.getD a undef))
theorem rv_tmp {t : Nat} (hS : St ds w W n a κ l Φ) (h : lk κ t = some v) : (rv a.tmps (.tmp t)).run P W = .ok v W := by
  simp [rv, hS.get t v h]
theorem rv_agg {t i b k : Nat} {cs : List Value} {E : TypeId} (hT : ∀ w, (isAgg T).run P w = .ok true w) (hk : ∀ w, (sizeOf T).run P w = .ok k w) (hS : St ds w W n a κ l Φ) (h : lk κ t = some (.pointer (some ⟨b, 0, none⟩))) (hB : nthB l i = some ⟨b, cs, E⟩) (hl : Nat.beq cs.length k = true) : (rv a.tmps (.cell t T)).run P W = .ok (.agg cs.toArray) W := by
  have hc := run_loadCells_list (P := P) W ⟨b, 0, none⟩ cs (fun j u hj => by rw [add_off, Nat.zero_add]; exact hS.cell hB hj)
  simp [rv, hS.get t _ h, asAddr, loadVar, hT W, hk W, ← Nat.eq_of_beq_eq_true hl, hc]
theorem res0 {fn : Func} (h : fn.results = #[]) : (results fn a.tmps).run P W = .ok (.tuple #[]) W := by
  simp [results, h]
theorem res1 {fn : Func} {r1 : ResultVar} (h : fn.results = #[r1]) (h1 : (rv a.tmps r1).run P W = .ok v W) : (results fn a.tmps).run P W = .ok v W := by
  cases r1 with
  | tmp t => simpa [results, h, rv] using h1
  | cell t T =>
    simp only [rv] at h1
    simp [results, h]
    simpa using h1
theorem results_eq (fn : Func) (ts : Array Value) : results fn ts = (do let vs ← fn.results.mapM (rv ts); pure (if h : vs.size = 1 then vs[0] else .tuple vs)) := by
  unfold results
  refine congrArg (fun f : ResultVar → Sem Value => (do let vs ← fn.results.mapM f; pure (if h : vs.size = 1 then vs[0] else .tuple vs) : Sem Value)) ?_
  funext r
  cases r <;> rfl
theorem res2 {fn : Func} {r1 r2 : ResultVar} {v1 v2 : Value} (h : fn.results = #[r1, r2]) (h1 : (rv a.tmps r1).run P W = .ok v1 W) (h2 : (rv a.tmps r2).run P W = .ok v2 W) : (results fn a.tmps).run P W = .ok (.tuple #[v1, v2]) W := by
  rw [results_eq, h]
  simp [h1, h2]
theorem res3 {fn : Func} {r1 r2 r3 : ResultVar} {v1 v2 v3 : Value} (h : fn.results = #[r1, r2, r3]) (h1 : (rv a.tmps r1).run P W = .ok v1 W) (h2 : (rv a.tmps r2).run P W = .ok v2 W) (h3 : (rv a.tmps r3).run P W = .ok v3 W) : (results fn a.tmps).run P W = .ok (.tuple #[v1, v2, v3]) W := by
  rw [results_eq, h]
  simp [h1, h2, h3]
theorem St.done {fn : Func} {R : Value → World → Prop} (hS : St [] w W n a κ l Φ) (hr : (results fn a.tmps).run P W = .ok v W) (hR : R v W) : bodyPost P fn (fun e W' => ∃ v, e = .returned v ∧ Below w.heap.size w W' ∧ R v W') .ret a W :=
  ⟨hS.defers.1, v, hr, v, rfl, hS.below, hR⟩
end
end Go.Proofs.YtdnodlgebpnfoaaGreat
namespace Go.Proofs.YtdnodlgebpnfoaaGreat
open Go Go.RowKit Go.Shelf
inductive Role
  | q (v : Value)
  | al (f : Nat → Value) (cs : List Value) (T : TypeId)
  | l (R : Value → World → Prop)
def Role.stable : Role → Prop
  | .l R => ∀ u W W', R u W → Later W W' → R u W'
  | _ => True
def Role.made : Role → World → Value → World → Prop
  | .q v, _, u, _ => u = v
  | .al f cs T, W, u, W1 => ∃ b, u = f b ∧ W.heap.size ≤ b ∧ W1.heap[b]? = some (.cells cs.toArray T (0, 0))
  | .l R, _, u, W1 => R u W1
def Role.holds : Role → Nat → Value → World → Prop
  | .q v, _, u, _ => u = v
  | .al f cs T, b, u, W => u = f b ∧ W.heap[b]? = some (.cells cs.toArray T (0, 0))
  | .l R, _, u, W => R u W
def Role.isAl : Role → Bool
  | .al .. => true
  | _ => false
theorem Later.refl (W : World) : Later W W := Below.refl _ _
theorem Later.trans {W W1 W2 : World} (h : Later W W1) (h' : Later W1 W2) : Later W W2 := Below.trans h (h'.mono h.size)
theorem Role.holds_later {ro : Role} (hs : ro.stable) {b : Nat} {u : Value} {W W' : World} (h : ro.holds b u W) (hl : Later W W') : ro.holds b u W' := by
  cases ro with
  | q v => exact h
  | al f cs T =>
    refine ⟨h.1, ?_⟩
    have hb := (Array.getElem?_eq_some_iff.1 h.2).1
    rw [hl.block b hb]; exact h.2
  | l R => exact hs _ _ _ h hl
def Yl (P : Program) (o : Oper) (a : Act) (W : World) (T : Value → World → Prop) : Prop :=
  (∃ u W1, (execOp a.eval o).run P W = .ok (.value u) W1 ∧ T u W1) ∨
  (∃ f args, (execOp a.eval o).run P W = .ok (.enter f args) W ∧ Calls P f args W fun e W1 => ∃ u, e = .returned u ∧ T u W1)
theorem Yl.mono {P : Program} {o : Oper} {a : Act} {W : World} {T T' : Value → World → Prop} (h : Yl P o a W T) (ht : ∀ u W1, T u W1 → T' u W1) : Yl P o a W T' := by
  rcases h with ⟨u, W1, h1, h2⟩ | ⟨f, args, h1, h2⟩
  · exact .inl ⟨u, W1, h1, ht _ _ h2⟩
  · exact .inr ⟨f, args, h1, h2.mono fun e W1 ⟨u, he, hu⟩ => ⟨u, he, ht _ _ hu⟩⟩
def notDefer (o : Oper) : Bool := match o.op with | .defer _ => false | _ => true
theorem notDefer_spec {o : Oper} (h : notDefer o = true) (c : Call) : o.op ≠ .defer c := by
  intro e; simp [notDefer, e] at h
theorem Yl.wpIn {P : Program} {r : Option Nat} {m : Nat} {o : Oper} {a : Act} {W : World} {T : Value → World → Prop} {K : Act → World → Prop} {Q : Exit → Act → World → Prop} (hd : notDefer o = true) (h : Yl P o a W T) (hk : ∀ u W1, T u W1 → K (a.put o.dst u) W1) : o.wpIn (Fw r) m P a W K Q := by
  refine ⟨fun _ _ => trivial, ?_⟩
  rw [Oper.semAt_eq _ _ _ (notDefer_spec hd)]
  rcases h with ⟨u, W1, h1, h2⟩ | ⟨f, args, h1, h2⟩
  · rw [h1]; exact hk _ _ h2
  · rw [h1]
    refine ⟨fun h => by simp [Fw] at h, ?_⟩
    have h3 : CallsIn Fence.wide (m - 1) P f args W (fun e W' => match e with
      | .returned v => K (a.put o.dst v) W'
      | .panicked chain => Q (.panic chain) a W'
      | .outgrown => LetsOut Q) := callsIn_wide.2 (h2.mono fun e W' he => by
        obtain ⟨v, rfl, h⟩ := he
        exact hk _ _ h)
    cases r with
    | none => exact CallsIn.mono h3 (fun e W' he => by cases e <;> exact he)
    | some i => exact CallsIn.mono (h3.inRound i) (fun e W' he => by cases e <;> exact he)
def inL : List Nat → Nat → Bool
  | [], _ => false
  | x :: xs, t => Nat.beq x t || inL xs t
theorem inL_iff {xs : List Nat} {t : Nat} : inL xs t = true ↔ t ∈ xs := by
  induction xs with
  | nil => simp [inL]
  | cons x xs ih =>
    simp only [inL, Bool.or_eq_true, List.mem_cons, ih]
    constructor
    · rintro (h | h)
      · exact .inl (Nat.eq_of_beq_eq_true h).symm
      · exact .inr h
    · rintro (rfl | h)
      · exact .inl (Nat.beq_refl _)
      · exact .inr h
def tl (o : Oper) : List Nat := o.op.operands.toList.filterMap fun | .tmp t => some t | _ => none
def kq (ts : List Nat) : List (Nat × Role) → KV
  | [] => []
  | (t, .q v) :: ρ => bif inL ts t then (t, v) :: kq ts ρ else kq ts ρ
  | _ :: ρ => kq ts ρ
def kall (bs : Nat → Nat) (us : Nat → Value) : Nat → List (Nat × Role) → KV
  | _, [] => []
  | i, (t, .q v) :: ρ => (t, v) :: kall bs us (i + 1) ρ
  | i, (t, .al f _ _) :: ρ => (t, f (bs i)) :: kall bs us (i + 1) ρ
  | i, (t, .l _) :: ρ => (t, us i) :: kall bs us (i + 1) ρ
def kval (bs : Nat → Nat) (us : Nat → Value) (i : Nat) : Role → Value
  | .q v => v
  | .al f _ _ => f (bs i)
  | .l _ => us i
def ball (bs : Nat → Nat) : Nat → List (Nat × Role) → List Blk
  | _, [] => []
  | i, (_, .al _ cs T) :: ρ => ⟨bs i, cs, T⟩ :: ball bs (i + 1) ρ
  | i, _ :: ρ => ball bs (i + 1) ρ
def lall (us : Nat → Value) (W : World) : Nat → List (Nat × Role) → Prop
  | _, [] => True
  | i, (_, .l R) :: ρ => R (us i) W ∧ lall us W (i + 1) ρ
  | i, _ :: ρ => lall us W (i + 1) ρ
section
variable (P : Program) (r : Option Nat) (m : Nat) (ops : Array Oper) (Q : Exit → Act → World → Prop) (ds : List Nat) (w W0 : World) (n : Nat) (κ0 : KV) (l : List Blk) (Φ : World → Prop)
def Hd (ts : List Nat) (ρ : List (Nat × Role)) (a : Act) (W : World) : Prop := ∀ p ∈ ρ, inL ts p.1 = true → ∃ b, p.2.holds b (a.tmps.getD p.1 undef) W
def Obl (ρ : List (Nat × Role)) (o : Oper) (ro : Role) : Prop :=
  ro.stable ∧ ∀ a W, St ds w W n a (kq (tl o) ρ ++ κ0) l Φ → Later W0 W → Hd (tl o) ρ a W → Yl P o a W fun u W1 => Later W W1 ∧ ro.made W u W1
def Mix : Nat → List (Nat × Role) → List Oper → Prop
  | 0, ρ, lops => ∀ a W bs us, St ds w W n a (kall bs us 0 ρ ++ κ0) (ball bs 0 ρ ++ l) Φ → Later W0 W → lall us W 0 ρ → wpListIn (Fw r) m P ops Q lops a W
  | _ + 1, _, [] => False
  | k + 1, ρ, o :: rest => ∃ d ro, o.dst = some d ∧ Obl P ds w W0 n κ0 l Φ ρ o ro ∧ Mix k ((d, ro) :: ρ) rest
def preds (md : Region.Mode) (o : Oper) : List Nat := (o.after.toList.filter (Region.binds md)).map (·.on)
def markF (md : Region.Mode) (lops : List Oper) : Nat → List Nat → List Nat
  | 0, S => S
  | j + 1, S => markF md lops j (bif inL S j then (match lops[j]? with | some o => preds md o | none => []) ++ S else S)
def dstsOf (lops : List Oper) (k : Nat) : List Nat := (lops.take k).filterMap (·.dst)
def dIdx : Nat → List Oper → List (Nat × Nat)
  | _, [] => []
  | i, o :: rest => match o.dst with | some d => (d, i) :: dIdx (i + 1) rest | none => dIdx (i + 1) rest
def looks (ps : List Nat) (t : Nat) : List (Nat × Nat) → Bool
  | [] => true
  | (d, j) :: D => (bif Nat.beq d t then inL ps j else true) && looks ps t D
def okTs (ps : List Nat) (D : List (Nat × Nat)) : List Nat → Bool
  | [] => true
  | t :: ts => looks ps t D && okTs ps D ts
def okPre (md : Region.Mode) (D : List (Nat × Nat)) (i : Nat) (o : Oper) : Bool :=
  o.guard.isNone && notDefer o && (preds md o).all (fun j => Nat.blt j i) && okTs (preds md o) D (tl o)
def okLast (md : Region.Mode) (lops : List Oper) (i : Nat) (o : Oper) : Bool :=
  (preds md o).all (fun j => Nat.blt j i) && (List.range i).all fun j => inL (markF md lops i (preds md o)) j
def nodupB : List Nat → Bool
  | [] => true
  | x :: xs => !(inL xs x) && nodupB xs
def okFrom (md : Region.Mode) (lops : List Oper) (D : List (Nat × Nat)) (k : Nat) : Nat → List Oper → Bool
  | _, [] => true
  | i, o :: rest => (bif Nat.blt i k then okPre md D i o else okLast md lops i o) && okFrom md lops D k (i + 1) rest
def mixB (md : Region.Mode) (lops : List Oper) (k : Nat) : Bool := Nat.ble k lops.length && nodupB (dstsOf lops k) && okFrom md lops (dIdx 0 (lops.take k)) k 0 lops
def apartB (κ0 : KV) (ds : List Nat) : Bool := κ0.all fun p => !(inL ds p.1)
end
section
variable {P : Program} {r : Option Nat} {m : Nat} {ops : Array Oper} {Q : Exit → Act → World → Prop} {ds : List Nat} {w W0 : World} {n : Nat} {κ0 : KV} {l : List Blk} {Φ : World → Prop} {md : Region.Mode} {lops : List Oper} {k : Nat}
theorem looks_spec {ps : List Nat} {t : Nat} : ∀ {D : List (Nat × Nat)}, looks ps t D = true → ∀ j, (t, j) ∈ D → inL ps j = true
  | [], _, j, hj => by cases hj
  | (d, j') :: D, h, j, hj => by
    simp only [looks, Bool.and_eq_true] at h
    rcases List.mem_cons.1 hj with e | hj
    · cases e
      have := h.1
      rw [Nat.beq_refl] at this
      exact this
    · exact looks_spec h.2 j hj
theorem okTs_spec {ps : List Nat} {D : List (Nat × Nat)} : ∀ {ts : List Nat}, okTs ps D ts = true → ∀ t ∈ ts, ∀ j, (t, j) ∈ D → inL ps j = true
  | [], _, t, ht, _, _ => by cases ht
  | t' :: ts, h, t, ht, j, hj => by
    simp only [okTs, Bool.and_eq_true] at h
    rcases List.mem_cons.1 ht with rfl | ht
    · exact looks_spec h.1 j hj
    · exact okTs_spec h.2 t ht j hj
theorem dIdx_mem : ∀ {ops : List Oper} {i j : Nat} {o : Oper} {d : Nat}, ops[j]? = some o → o.dst = some d → (d, i + j) ∈ dIdx i ops
  | [], i, j, o, d, h, _ => by simp at h
  | o' :: ops, i, 0, o, d, h, hd => by
    simp only [List.getElem?_cons_zero, Option.some.injEq] at h
    subst h
    simp [dIdx, hd]
  | o' :: ops, i, j + 1, o, d, h, hd => by
    have := dIdx_mem (ops := ops) (i := i + 1) (j := j) (by simpa using h) hd
    rw [show i + 1 + j = i + (j + 1) by omega] at this
    simp only [dIdx]
    split
    · exact List.mem_cons_of_mem _ this
    · exact this
theorem okFrom_spec {D : List (Nat × Nat)} : ∀ (rest : List Oper) (i : Nat), okFrom md lops D k i rest = true → ∀ j o, rest[j]? = some o → if i + j < k then okPre md D (i + j) o = true else okLast md lops (i + j) o = true
  | [], _, _, j, o, h => by simp at h
  | o :: rest, i, hB, 0, o', h => by
    simp only [List.getElem?_cons_zero, Option.some.injEq] at h
    subst h
    simp only [okFrom, Bool.and_eq_true] at hB
    rw [Nat.add_zero]
    by_cases hk : i < k
    · rw [if_pos hk]; have := hB.1; rwa [show Nat.blt i k = true from Nat.blt_eq.mpr hk] at this
    · rw [if_neg hk]; have := hB.1; rwa [show Nat.blt i k = false by rw [← Bool.not_eq_true]; simpa [Nat.blt_eq] using hk] at this
  | o :: rest, i, hB, j + 1, o', h => by
    simp only [okFrom, Bool.and_eq_true] at hB
    have := okFrom_spec rest (i + 1) hB.2 j o' (by simpa using h)
    rwa [show i + 1 + j = i + (j + 1) by omega] at this
theorem Mix.roles : ∀ (k : Nat) (ρ : List (Nat × Role)) (rest : List Oper), Mix P r m ops Q ds w W0 n κ0 l Φ k ρ rest →
    ∃ ρs : List (Nat × Role), ρs.length = k ∧ k ≤ rest.length ∧ (∀ i o, i < k → rest[i]? = some o → ∃ p, ρs[i]? = some p ∧ o.dst = some p.1 ∧ Obl P ds w W0 n κ0 l Φ ((ρs.take i).reverse ++ ρ) o p.2) ∧
      Mix P r m ops Q ds w W0 n κ0 l Φ 0 (ρs.reverse ++ ρ) (rest.drop k)
  | 0, ρ, rest, h => ⟨[], rfl, Nat.zero_le _, fun i o hi => absurd hi (Nat.not_lt_zero i), h⟩
  | k + 1, ρ, [], h => h.elim
  | k + 1, ρ, o :: rest, h => by
    obtain ⟨d, ro, h1, h2, h3⟩ := h
    obtain ⟨ρs, e1, e2, e3, e4⟩ := Mix.roles k _ rest h3
    refine ⟨(d, ro) :: ρs, by simp [e1], by simpa using e2, ?_, ?_⟩
    · intro i o' hi ho
      cases i with
      | zero =>
        simp only [List.getElem?_cons_zero, Option.some.injEq] at ho
        subst ho
        exact ⟨(d, ro), rfl, h1, by simpa using h2⟩
      | succ i =>
        obtain ⟨p, f1, f2, f3⟩ := e3 i o' (by omega) (by simpa using ho)
        exact ⟨p, by simpa using f1, f2, by simpa using f3⟩
    · simpa using e4
theorem kq_lk {ts : List Nat} : ∀ {ρ : List (Nat × Role)} {t : Nat} {v : Value}, lk (kq ts ρ) t = some v → inL ts t = true ∧ (t, Role.q v) ∈ ρ
  | [], t, v, h => by cases h
  | (s, .q u) :: ρ, t, v, h => by
    simp only [kq] at h
    cases hb : inL ts s with
    | false => rw [hb] at h; have := kq_lk (ρ := ρ) h; exact ⟨this.1, List.mem_cons_of_mem _ this.2⟩
    | true =>
      rw [hb] at h
      rcases lk_put h with ⟨rfl, rfl⟩ | ⟨_, h⟩
      · exact ⟨hb, List.mem_cons_self⟩
      · have := kq_lk (ρ := ρ) h; exact ⟨this.1, List.mem_cons_of_mem _ this.2⟩
  | (s, .al f cs T) :: ρ, t, v, h => by have := kq_lk (ρ := ρ) h; exact ⟨this.1, List.mem_cons_of_mem _ this.2⟩
  | (s, .l R) :: ρ, t, v, h => by have := kq_lk (ρ := ρ) h; exact ⟨this.1, List.mem_cons_of_mem _ this.2⟩
theorem lk_app : ∀ {κ κ' : KV} {t : Nat} {v : Value}, lk (κ ++ κ') t = some v → lk κ t = some v ∨ lk κ' t = some v
  | [], κ', t, v, h => .inr h
  | (s, u) :: κ, κ', t, v, h => by
    rcases lk_put h with ⟨rfl, rfl⟩ | ⟨hne, h⟩
    · exact .inl (by simp [lk])
    · rcases lk_app h with h | h
      · exact .inl (by simp only [lk]; rw [show Nat.beq s t = false by rw [← Bool.not_eq_true]; intro e; exact hne (Nat.eq_of_beq_eq_true e)]; exact h)
      · exact .inr h
theorem lk_mem : ∀ {κ : KV} {t : Nat} {v : Value}, lk κ t = some v → (t, v) ∈ κ
  | (s, u) :: κ, t, v, h => by
    rcases lk_put h with ⟨rfl, rfl⟩ | ⟨_, h⟩
    · exact List.mem_cons_self
    · exact List.mem_cons_of_mem _ (lk_mem h)
structure On (ds : List Nat) (w W0 : World) (n : Nat) (κ0 : KV) (l : List Blk) (Φ : World → Prop) (md : Region.Mode) (lops : List Oper) (k : Nat) (ρs : List (Nat × Role)) (bs : Nat → Nat) (listed : Array Bool) (a : Act) (W : World) : Prop where
  st : St ds w W n a κ0 l Φ
  late : Later W0 W
  size : listed.size = lops.length
  down : ∀ i o, listed.getD i false = true → lops[i]? = some o → ∀ j ∈ preds md o, listed.getD j false = true
  has : ∀ i p, ρs[i]? = some p → listed.getD i false = true → p.2.holds (bs i) (a.tmps.getD p.1 undef) W
  new : ∀ i p, ρs[i]? = some p → listed.getD i false = true → p.2.isAl = true → W0.heap.size ≤ bs i ∧ bs i < W.heap.size
  dist : ∀ i j p p', ρs[i]? = some p → ρs[j]? = some p' → listed.getD i false = true → listed.getD j false = true → p.2.isAl = true → p'.2.isAl = true → i ≠ j → bs i ≠ bs j
theorem preds_mem {o : Oper} {j : Nat} : j ∈ preds md o ↔ ∃ e ∈ o.after, Region.binds md e = true ∧ e.on = j := by
  simp only [preds, List.mem_map, List.mem_filter, Array.mem_toList_iff]
  constructor
  · rintro ⟨e, ⟨h1, h2⟩, h3⟩; exact ⟨e, h1, h2, h3⟩
  · rintro ⟨e, h1, h2, h3⟩; exact ⟨e, ⟨h1, h2⟩, h3⟩
theorem mark_spec {S0 : Nat → Prop} (hc : ∀ i o, S0 i → lops[i]? = some o → ∀ j ∈ preds md o, S0 j) : ∀ (i : Nat) (S : List Nat), (∀ j ∈ S, S0 j) → ∀ j ∈ markF md lops i S, S0 j
  | 0, S, h => h
  | i + 1, S, h => by
    refine mark_spec hc i _ ?_
    cases hb : inL S i with
    | false => exact h
    | true =>
      have hi := h i (inL_iff.1 hb)
      intro j hj
      rcases List.mem_append.1 hj with hj | hj
      · cases ho : lops[i]? with
        | none => rw [ho] at hj; cases hj
        | some o => rw [ho] at hj; exact hc i o hi ho j hj
      · exact h j hj
theorem nodupB_spec : ∀ {xs : List Nat}, nodupB xs = true → xs.Nodup
  | [], _ => List.nodup_nil
  | x :: xs, h => by
    simp only [nodupB, Bool.and_eq_true, Bool.not_eq_true'] at h
    refine List.nodup_cons.2 ⟨fun hm => ?_, nodupB_spec h.2⟩
    rw [inL_iff.2 hm] at h; simp at h
theorem getD_ft {A : Array Bool} {i : Nat} (hi : i < A.size) : A.getD i true = A.getD i false := by simp [hi]
theorem put_get {a : Act} {d : Nat} {u : Value} {t : Nat} (hne : t ≠ d) : (a.put (some d) u).tmps.getD t undef = a.tmps.getD t undef := by
  show (a.tmps.setIfInBounds d u).getD t undef = _
  simp only [Array.getD_eq_getD_getElem?, Array.getElem?_setIfInBounds]
  rw [if_neg (fun e => hne e.symm)]
theorem ready_iff {listed : Array Bool} (hz : listed.size = lops.length) {i : Nat} : i ∈ Region.ready md lops.toArray listed ↔ ∃ o, lops[i]? = some o ∧ listed.getD i false = false ∧ ∀ j ∈ preds md o, listed.getD j false = true := by
  rw [mem_ready]
  constructor
  · rintro ⟨h1, o, h2, h3⟩
    have h2' : lops[i]? = some o := by simpa using h2
    have hlt : i < lops.length := (List.getElem?_eq_some_iff.1 h2').1
    refine ⟨o, h2', by rw [← getD_ft (by omega)]; exact h1, fun j hj => ?_⟩
    obtain ⟨e, he, hb, rfl⟩ := preds_mem.1 hj
    exact h3 e he hb
  · rintro ⟨o, h2, h1, h3⟩
    have hlt : i < lops.length := (List.getElem?_eq_some_iff.1 h2).1
    exact ⟨by rw [getD_ft (by omega)]; exact h1, o, by simpa using h2, fun e he hb => h3 _ (preds_mem.2 ⟨e, he, hb, rfl⟩)⟩
theorem ball_mem {bs : Nat → Nat} : ∀ {ρ : List (Nat × Role)} {i : Nat} {B : Blk}, B ∈ ball bs i ρ → ∃ (j : Nat) (d : Nat) (f : Nat → Value) (cs : List Value) (T : TypeId), ρ[j]? = some (d, Role.al f cs T) ∧ B = ⟨bs (i + j), cs, T⟩
  | [], i, B, h => by cases h
  | (d, .q v) :: ρ, i, B, h => by
    obtain ⟨j, d', f, cs, T, h1, h2⟩ := ball_mem (ρ := ρ) (i := i + 1) h
    exact ⟨j + 1, d', f, cs, T, by simpa using h1, by rw [h2, show i + (j + 1) = i + 1 + j by omega]⟩
  | (d, .l R) :: ρ, i, B, h => by
    obtain ⟨j, d', f, cs, T, h1, h2⟩ := ball_mem (ρ := ρ) (i := i + 1) h
    exact ⟨j + 1, d', f, cs, T, by simpa using h1, by rw [h2, show i + (j + 1) = i + 1 + j by omega]⟩
  | (d, .al f cs T) :: ρ, i, B, h => by
    rcases List.mem_cons.1 h with rfl | h
    · exact ⟨0, d, f, cs, T, rfl, rfl⟩
    · obtain ⟨j, d', f', cs', T', h1, h2⟩ := ball_mem (ρ := ρ) (i := i + 1) h
      exact ⟨j + 1, d', f', cs', T', by simpa using h1, by rw [h2, show i + (j + 1) = i + 1 + j by omega]⟩
theorem ball_pair {bs : Nat → Nat} : ∀ {ρ : List (Nat × Role)} {i : Nat}, (∀ (j j' : Nat) (p p' : Nat × Role), ρ[j]? = some p → ρ[j']? = some p' → p.2.isAl = true → p'.2.isAl = true → j ≠ j' → bs (i + j) ≠ bs (i + j')) → (ball bs i ρ).Pairwise (fun x y => x.b ≠ y.b)
  | [], i, h => List.Pairwise.nil
  | (d, .q v) :: ρ, i, h => ball_pair (ρ := ρ) (i := i + 1) fun j j' p p' h1 h2 h3 h4 h5 => by
    have := h (j + 1) (j' + 1) p p' (by simpa using h1) (by simpa using h2) h3 h4 (by omega)
    rwa [show i + (j + 1) = i + 1 + j by omega, show i + (j' + 1) = i + 1 + j' by omega] at this
  | (d, .l R) :: ρ, i, h => ball_pair (ρ := ρ) (i := i + 1) fun j j' p p' h1 h2 h3 h4 h5 => by
    have := h (j + 1) (j' + 1) p p' (by simpa using h1) (by simpa using h2) h3 h4 (by omega)
    rwa [show i + (j + 1) = i + 1 + j by omega, show i + (j' + 1) = i + 1 + j' by omega] at this
  | (d, .al f cs T) :: ρ, i, h => by
    refine List.Pairwise.cons (fun B hB => ?_) (ball_pair (ρ := ρ) (i := i + 1) fun j j' p p' h1 h2 h3 h4 h5 => by
      have := h (j + 1) (j' + 1) p p' (by simpa using h1) (by simpa using h2) h3 h4 (by omega)
      rwa [show i + (j + 1) = i + 1 + j by omega, show i + (j' + 1) = i + 1 + j' by omega] at this)
    obtain ⟨j, d', f', cs', T', h1, rfl⟩ := ball_mem hB
    have := h 0 (j + 1) _ _ rfl (by simpa using h1) rfl rfl (by omega)
    rwa [show i + (j + 1) = i + 1 + j by omega, Nat.add_zero] at this
theorem kall_lk {bs : Nat → Nat} {us : Nat → Value} : ∀ {ρ : List (Nat × Role)} {i : Nat} {t : Nat} {v : Value}, lk (kall bs us i ρ) t = some v → ∃ (j : Nat) (ro : Role), ρ[j]? = some (t, ro) ∧ kval bs us (i + j) ro = v
  | [], i, t, v, h => by cases h
  | (s, .q u) :: ρ, i, t, v, h => by
    rcases lk_put h with ⟨rfl, rfl⟩ | ⟨_, h⟩
    · exact ⟨0, _, rfl, rfl⟩
    · obtain ⟨j, ro, h1, h2⟩ := kall_lk (ρ := ρ) (i := i + 1) h
      refine ⟨j + 1, ro, by simpa using h1, ?_⟩
      rw [show i + (j + 1) = i + 1 + j by omega]; exact h2
  | (s, .al f cs T) :: ρ, i, t, v, h => by
    rcases lk_put h with ⟨rfl, rfl⟩ | ⟨_, h⟩
    · exact ⟨0, _, rfl, rfl⟩
    · obtain ⟨j, ro, h1, h2⟩ := kall_lk (ρ := ρ) (i := i + 1) h
      refine ⟨j + 1, ro, by simpa using h1, ?_⟩
      rw [show i + (j + 1) = i + 1 + j by omega]; exact h2
  | (s, .l R) :: ρ, i, t, v, h => by
    rcases lk_put h with ⟨rfl, rfl⟩ | ⟨_, h⟩
    · exact ⟨0, _, rfl, rfl⟩
    · obtain ⟨j, ro, h1, h2⟩ := kall_lk (ρ := ρ) (i := i + 1) h
      refine ⟨j + 1, ro, by simpa using h1, ?_⟩
      rw [show i + (j + 1) = i + 1 + j by omega]; exact h2
theorem lall_of {us : Nat → Value} {W : World} : ∀ {ρ : List (Nat × Role)} {i : Nat}, (∀ (j : Nat) (d : Nat) (R : Value → World → Prop), ρ[j]? = some (d, Role.l R) → R (us (i + j)) W) → lall us W i ρ
  | [], _, _ => trivial
  | (_, .q _) :: ρ, i, h => lall_of (ρ := ρ) (i := i + 1) fun j d R hj => by
    have := h (j + 1) d R (by simpa using hj); rwa [show i + (j + 1) = i + 1 + j by omega] at this
  | (_, .al _ _ _) :: ρ, i, h => lall_of (ρ := ρ) (i := i + 1) fun j d R hj => by
    have := h (j + 1) d R (by simpa using hj); rwa [show i + (j + 1) = i + 1 + j by omega] at this
  | (s, .l R) :: ρ, i, h => ⟨h 0 s R rfl, lall_of (ρ := ρ) (i := i + 1) fun j d R hj => by
    have := h (j + 1) d R (by simpa using hj); rwa [show i + (j + 1) = i + 1 + j by omega] at this⟩
theorem mix_last (hB : ∀ i o, lops[i]? = some o → k ≤ i → okLast md lops i o = true) : ∀ (fuel i : Nat) (listed : Array Bool) (a : Act) (W : World), k ≤ i → listed.size = lops.length → lops.length = i + fuel →
    (∀ j, listed.getD j false = true ↔ j < i) → (∀ j o, listed.getD j false = true → lops[j]? = some o → ∀ j' ∈ preds md o, listed.getD j' false = true) →
    wpListIn (Fw r) m P lops.toArray Q (lops.drop i) a W → wpAnyIn (Fw r) m P md lops.toArray Q fuel listed a W
  | 0, i, listed, a, W, hk, hz, hf, hl, hd, h => by
    rw [List.drop_eq_nil_of_le (by omega)] at h
    refine ⟨?_, h⟩
    rw [List.eq_nil_iff_forall_not_mem]
    intro j hj
    obtain ⟨o, h1, h2, _⟩ := (ready_iff hz).1 hj
    have := (hl j).2 (by have := (List.getElem?_eq_some_iff.1 h1).1; omega)
    rw [h2] at this; cases this
  | fuel + 1, i, listed, a, W, hk, hz, hf, hl, hd, h => by
    have hlt : i < lops.length := by omega
    have ho : lops[i]? = some lops[i] := List.getElem?_eq_getElem hlt
    have hi0 : listed.getD i false = false := by
      cases hq : listed.getD i false with
      | false => rfl
      | true => have := (hl i).1 hq; omega
    have hrdy : i ∈ Region.ready md lops.toArray listed := by
      refine (ready_iff hz).2 ⟨_, ho, hi0, fun j hj => (hl j).2 ?_⟩
      have h1 := hB i _ ho hk
      simp only [okLast, Bool.and_eq_true, List.all_eq_true] at h1
      exact Nat.blt_eq.mp (h1.1 j hj)
    have honly : ∀ j ∈ Region.ready md lops.toArray listed, j = i := by
      intro j hj
      obtain ⟨o, h1, h2, h3⟩ := (ready_iff hz).1 hj
      have hji : i ≤ j := by
        apply Nat.le_of_not_lt; intro hc
        have := (hl j).2 hc; rw [h2] at this; cases this
      rcases Nat.lt_or_eq_of_le hji with hc | hc
      · have h4 := hB j o h1 (by omega)
        simp only [okLast, Bool.and_eq_true, List.all_eq_true, List.mem_range] at h4
        have h5 := mark_spec (lops := lops) (md := md) (S0 := fun j => listed.getD j false = true) hd j _ h3 i (inL_iff.1 (h4.2 i hc))
        rw [hi0] at h5; cases h5
      · exact hc.symm
    refine ⟨fun h0 => (by rw [h0] at hrdy; exact absurd hrdy (List.not_mem_nil)), fun j hj => ?_⟩
    rw [honly j hj]
    have hrest : ∀ a' W', wpListIn (Fw r) m P lops.toArray Q (lops.drop (i + 1)) a' W' → wpAnyIn (Fw r) m P md lops.toArray Q fuel (listed.setIfInBounds i true) a' W' := by
      intro a' W' h'
      have hset : ∀ j, (listed.setIfInBounds i true).getD j false = true ↔ j < i + 1 := by
        intro j
        by_cases e : i = j
        · subst e; simp [show i < listed.size by omega]
        · rw [getD_set_ne false e, hl]; omega
      refine mix_last hB fuel (i + 1) _ a' W' (by omega) (by simpa using hz) (by omega) hset ?_ h'
      intro j o hj ho' j' hj'
      rw [hset] at hj ⊢
      rcases Nat.lt_or_eq_of_le (Nat.le_of_lt_succ hj) with hc | hc
      · have := hd j o ((hl j).2 hc) ho' j' hj'
        have := (hl j').1 this; omega
      · subst hc
        have h1 := hB j o ho' hk
        simp only [okLast, Bool.and_eq_true, List.all_eq_true] at h1
        have := Nat.blt_eq.mp (h1.1 j' hj'); omega
    rw [List.drop_eq_getElem_cons hlt] at h
    unfold wpOpIn
    rw [show (lops.toArray)[i]? = some lops[i] by simpa using ho]
    simp only
    unfold wpListIn at h
    by_cases hw : Region.wanted lops[i] (yielded lops.toArray a.tmps) = true
    · rw [if_pos hw] at h ⊢
      exact Oper.wpIn_mono hrest h
    · rw [if_neg hw] at h ⊢
      exact ⟨h.1, hrest _ _ h.2⟩
theorem exists_unlisted {listed : Array Bool} {N : Nat} (h : ∃ i, i < N ∧ listed.getD i false = false) : ∃ i, i < N ∧ listed.getD i false = false ∧ ∀ j, j < i → listed.getD j false = true := by
  obtain ⟨i, hi, h⟩ := h
  induction i using Nat.strongRecOn with
  | _ i ih =>
    by_cases hc : ∃ j, j < i ∧ listed.getD j false = false
    · obtain ⟨j, hj, hf⟩ := hc
      exact ih j hj (by omega) hf
    · refine ⟨i, hi, h, fun j hj => ?_⟩
      cases hq : listed.getD j false with
      | true => rfl
      | false => exact absurd ⟨j, hj, hq⟩ hc
def cnt (listed : Array Bool) : Nat → Nat
  | 0 => 0
  | N + 1 => cnt listed N + if listed.getD N false then 0 else 1
theorem cnt_set_hi {listed : Array Bool} {i : Nat} : ∀ {N : Nat}, N ≤ i → cnt (listed.setIfInBounds i true) N = cnt listed N
  | 0, _ => rfl
  | N + 1, h => by
    simp only [cnt]
    rw [cnt_set_hi (by omega), getD_set_ne false (by omega)]
theorem cnt_set {listed : Array Bool} {i : Nat} (h : listed.getD i false = false) (hi : i < listed.size) : ∀ {N : Nat}, i < N → cnt (listed.setIfInBounds i true) N + 1 = cnt listed N
  | 0, hN => absurd hN (Nat.not_lt_zero i)
  | N + 1, hN => by
    simp only [cnt]
    by_cases e : i = N
    · subst e
      rw [cnt_set_hi (Nat.le_refl _), h]
      simp [hi]
    · have := cnt_set h hi (show i < N by omega)
      rw [getD_set_ne false e]; omega
theorem cnt_prefix {listed : Array Bool} {k : Nat} (h : ∀ j, listed.getD j false = true ↔ j < k) : ∀ N, k ≤ N → cnt listed N + k = N := by
  have h0 : ∀ N, N ≤ k → cnt listed N = 0 := by
    intro N
    induction N with
    | zero => intro _; rfl
    | succ N ih => intro hN; simp only [cnt]; rw [ih (by omega), (h N).2 (by omega)]; rfl
  intro N
  induction N with
  | zero => intro hN; simp only [cnt]; omega
  | succ N ih =>
    intro hN
    rcases Nat.lt_or_eq_of_le hN with hc | hc
    · have := ih (by omega)
      simp only [cnt]
      have : listed.getD N false = false := by
        cases hq : listed.getD N false with
        | false => rfl
        | true => have := (h N).1 hq; omega
      rw [this]; simp; omega
    · rw [h0 _ (by omega)]; omega
theorem cnt_zero {listed : Array Bool} : ∀ {N : Nat}, cnt listed N = 0 → ∀ i, i < N → listed.getD i false = true
  | 0, _, i, hi => absurd hi (Nat.not_lt_zero i)
  | N + 1, h, i, hi => by
    simp only [cnt] at h
    rcases Nat.lt_or_eq_of_le (Nat.le_of_lt_succ hi) with hc | hc
    · exact cnt_zero (N := N) (by omega) i hc
    · subst hc
      cases hq : listed.getD i false with
      | true => rfl
      | false => rw [hq] at h; simp at h
theorem Mix.final {ρ : List (Nat × Role)} {a : Act} {W : World} {bs : Nat → Nat} (hfin : Mix P r m ops Q ds w W0 n κ0 l Φ 0 ρ lops) (hS : St ds w W n a κ0 l Φ) (hL : Later W0 W) (hw0 : w.heap.size ≤ W0.heap.size) (hl0 : ∀ B ∈ l, B.b < W0.heap.size) (hΦ : ∀ W', Off l W0 W' → W0.heap.size ≤ W'.heap.size → Φ W')
    (has : ∀ (i : Nat) (p : Nat × Role), ρ[i]? = some p → p.2.holds (bs i) (a.tmps.getD p.1 undef) W) (new : ∀ (i : Nat) (p : Nat × Role), ρ[i]? = some p → p.2.isAl = true → W0.heap.size ≤ bs i)
    (dist : ∀ (j j' : Nat) (p p' : Nat × Role), ρ[j]? = some p → ρ[j']? = some p' → p.2.isAl = true → p'.2.isAl = true → j ≠ j' → bs j ≠ bs j') : wpListIn (Fw r) m P ops Q lops a W := by
  refine hfin a W bs (fun i => match ρ[i]? with | some p => a.tmps.getD p.1 undef | none => undef) ?_ hL ?_
  · refine ⟨hS.size, hS.defers, ?_, hS.below, ?_, ?_, ?_, ?_⟩
    · intro t v ht
      rcases lk_app ht with ht | ht
      · obtain ⟨j, ro, h1, h2⟩ := kall_lk ht
        have h3 := has j _ h1
        rw [Nat.zero_add] at h2
        cases ro with
        | q v' => simp only [kval] at h2; subst h2; exact h3
        | al f cs T => simp only [kval] at h2; subst h2; exact h3.1
        | l R => simp only [kval, h1] at h2; exact h2
      · exact hS.get t v ht
    · intro B hB
      rcases List.mem_append.1 hB with hB | hB
      · obtain ⟨j, d, f, cs, T, h1, rfl⟩ := ball_mem hB
        have h3 := has j _ h1
        rw [Nat.zero_add]
        exact h3.2
      · exact hS.blk B hB
    · intro B hB
      rcases List.mem_append.1 hB with hB | hB
      · obtain ⟨j, d, f, cs, T, h1, rfl⟩ := ball_mem hB
        have := new j _ h1 rfl
        show w.heap.size ≤ bs (0 + j)
        rw [Nat.zero_add]; omega
      · exact hS.old B hB
    · refine List.pairwise_append.2 ⟨ball_pair fun j j' p p' h1 h2 h3 h4 h5 => by rw [Nat.zero_add, Nat.zero_add]; exact dist j j' p p' h1 h2 h3 h4 h5, hS.dist, ?_⟩
      intro x hx y hy
      obtain ⟨j, d, f, cs, T, h1, rfl⟩ := ball_mem hx
      have := new j _ h1 rfl
      have := hl0 y hy
      show bs (0 + j) ≠ y.b
      rw [Nat.zero_add]; omega
    · intro W' ho hz
      refine hΦ W' ⟨ho.os.trans hL.os, ho.tape.trans hL.tape, ho.output.trans hL.output, fun k hk hn => ?_⟩ (Nat.le_trans hL.size hz)
      rw [ho.same k (Nat.lt_of_lt_of_le hk hL.size) (fun B hB => ?_), hL.block k hk]
      rcases List.mem_append.1 hB with hB | hB
      · obtain ⟨j, d, f, cs, T, h1, rfl⟩ := ball_mem hB
        have := new j _ h1 rfl
        show k ≠ bs (0 + j)
        rw [Nat.zero_add]; omega
      · exact hn B hB
  · refine lall_of fun j d R hj => ?_
    have := has j _ hj
    rw [Nat.zero_add]
    simp only [hj]
    exact this
theorem mix_any {ρs : List (Nat × Role)} (hk : k ≤ lops.length) (hρ : ρs.length = k) (hap : apartB κ0 (dstsOf lops k) = true)
    (hobl : ∀ i o, i < k → lops[i]? = some o → ∃ p, ρs[i]? = some p ∧ o.dst = some p.1 ∧ Obl P ds w W0 n κ0 l Φ ((ρs.take i).reverse ++ []) o p.2)
    (hn : ∀ d ∈ dstsOf lops k, Nat.blt d n = true) (hpre : ∀ i o, lops[i]? = some o → i < k → okPre md (dIdx 0 (lops.take k)) i o = true) (hlast : ∀ i o, lops[i]? = some o → k ≤ i → okLast md lops i o = true) (hnd : ∀ i j o o' d, lops[i]? = some o → lops[j]? = some o' → i < k → j < k → o.dst = some d → o'.dst = some d → i = j)
    (hl0 : ∀ B ∈ l, B.b < W0.heap.size) (hΦ : ∀ W', Off l W0 W' → W0.heap.size ≤ W'.heap.size → Φ W') (hw0 : w.heap.size ≤ W0.heap.size)
    (hfin : Mix P r m lops.toArray Q ds w W0 n κ0 l Φ 0 (ρs.reverse ++ []) (lops.drop k)) :
    ∀ (fuel : Nat) (bs : Nat → Nat) (listed : Array Bool) (a : Act) (W : World), cnt listed lops.length = fuel → (∀ i, k ≤ i → listed.getD i false = false) → On ds w W0 n κ0 l Φ md lops k ρs bs listed a W →
      wpAnyIn (Fw r) m P md lops.toArray Q fuel listed a W := by
  have hdst : ∀ (i : Nat) (p : Nat × Role) (o : Oper), ρs[i]? = some p → lops[i]? = some o → o.dst = some p.1 := by
    intro i p o h1 h2
    have hi : i < k := by rw [← hρ]; exact (List.getElem?_eq_some_iff.1 h1).1
    obtain ⟨p', e1, e2, _⟩ := hobl i o hi h2
    rw [h1] at e1; cases e1; exact e2
  have hin : ∀ (i : Nat) (p : Nat × Role), ρs[i]? = some p → p.1 ∈ dstsOf lops k := by
    intro i p h1
    have hi : i < k := by rw [← hρ]; exact (List.getElem?_eq_some_iff.1 h1).1
    have ho : lops[i]? = some (lops[i]'(by omega)) := List.getElem?_eq_getElem (by omega)
    refine List.mem_filterMap.2 ⟨lops[i]'(by omega), ?_, hdst i p _ h1 ho⟩
    rw [List.mem_take_iff_getElem]
    exact ⟨i, by omega, rfl⟩
  have hdone : ∀ (fuel : Nat) (bs : Nat → Nat) (listed : Array Bool) (a : Act) (W : World), cnt listed lops.length = fuel → (∀ i, k ≤ i → listed.getD i false = false) → (∀ i, i < k → listed.getD i false = true) →
      On ds w W0 n κ0 l Φ md lops k ρs bs listed a W → wpAnyIn (Fw r) m P md lops.toArray Q fuel listed a W := by
    intro fuel bs listed a W hc hlo hall hO
    have hiff : ∀ j, listed.getD j false = true ↔ j < k := by
      intro j
      refine ⟨fun h => ?_, hall j⟩
      apply Nat.lt_of_not_le; intro hc; rw [hlo j hc] at h; cases h
    refine mix_last hlast fuel k listed a W (Nat.le_refl _) hO.size (by have := cnt_prefix hiff lops.length hk; omega) hiff (fun j o h1 h2 j' h3 => hO.down j o h1 h2 j' h3) ?_
    have hrev : ∀ i (p : Nat × Role), (ρs.reverse ++ [])[i]? = some p → i < k ∧ ρs[k - 1 - i]? = some p := by
      intro i p h
      rw [List.append_nil] at h
      have hlt : i < ρs.reverse.length := (List.getElem?_eq_some_iff.1 h).1
      rw [List.length_reverse, hρ] at hlt
      refine ⟨hlt, ?_⟩
      rw [List.getElem?_reverse (by omega), hρ] at h
      exact h
    refine Mix.final (bs := fun i => bs (k - 1 - i)) hfin hO.st hO.late hw0 hl0 hΦ ?_ ?_ ?_
    · intro i p h
      obtain ⟨h1, h2⟩ := hrev i p h
      exact hO.has _ _ h2 (hall _ (by omega))
    · intro i p h hp
      obtain ⟨h1, h2⟩ := hrev i p h
      exact (hO.new _ _ h2 (hall _ (by omega)) hp).1
    · intro j j' p p' h h' hp hp' hne
      obtain ⟨h1, h2⟩ := hrev j p h
      obtain ⟨h3, h4⟩ := hrev j' p' h'
      exact hO.dist _ _ _ _ h2 h4 (hall _ (by omega)) (hall _ (by omega)) hp hp' (by omega)
  intro fuel
  induction fuel with
  | zero =>
    intro bs listed a W hc hlo hO
    exact hdone 0 bs listed a W hc hlo (fun i hi => cnt_zero hc i (by omega)) hO
  | succ fuel ih =>
    intro bs listed a W hc hlo hO
    by_cases hall : ∀ i, i < k → listed.getD i false = true
    · exact hdone _ bs listed a W hc hlo hall hO
    · have hex : ∃ i, i < k ∧ listed.getD i false = false := by
        apply Classical.byContradiction
        intro hne
        refine hall fun i hi => ?_
        cases hq : listed.getD i false with
        | true => rfl
        | false => exact absurd ⟨i, hi, hq⟩ hne
      obtain ⟨i0, hi0, hf0, hmin⟩ := exists_unlisted hex
      have ho0 : lops[i0]? = some (lops[i0]'(by omega)) := List.getElem?_eq_getElem (by omega)
      have hr0 : i0 ∈ Region.ready md lops.toArray listed := by
        refine (ready_iff hO.size).2 ⟨_, ho0, hf0, fun j hj => hmin j ?_⟩
        have h1 := hpre i0 _ ho0 hi0
        simp only [okPre, Bool.and_eq_true, List.all_eq_true] at h1
        exact Nat.blt_eq.mp (h1.1.2 j hj)
      refine ⟨fun h0 => (by rw [h0] at hr0; exact absurd hr0 (List.not_mem_nil)), fun i hi => ?_⟩
      obtain ⟨o, h1, h2, h3⟩ := (ready_iff hO.size).1 hi
      have hik : i < k := by
        apply Nat.lt_of_not_le; intro hc'
        have h4 := hlast i o h1 hc'
        simp only [okLast, Bool.and_eq_true, List.all_eq_true, List.mem_range] at h4
        have h5 := mark_spec (lops := lops) (md := md) (S0 := fun j => listed.getD j false = true) (fun i o h h' j hj => hO.down i o h h' j hj) i _ h3 i0 (inL_iff.1 (h4.2 i0 (by omega)))
        rw [hf0] at h5; cases h5
      obtain ⟨p, hp, hd, hst, hyl⟩ := hobl i o hik h1
      have hop := hpre i o h1 hik
      simp only [okPre, Bool.and_eq_true, List.all_eq_true, Option.isNone_iff_eq_none] at hop
      obtain ⟨⟨⟨hg, hnd'⟩, hlow⟩, hdeps⟩ := hop
      have hρi : ∀ q ∈ (ρs.take i).reverse ++ [], ∃ j, j < i ∧ ρs[j]? = some q := by
        intro q hq
        rw [List.append_nil, List.mem_reverse, List.mem_take_iff_getElem] at hq
        obtain ⟨j, hj, rfl⟩ := hq
        exact ⟨j, by omega, List.getElem?_eq_getElem (by omega)⟩
      have hdep : ∀ q ∈ (ρs.take i).reverse ++ [], inL (tl o) q.1 = true → ∃ j, ρs[j]? = some q ∧ listed.getD j false = true := by
        intro q hq hin'
        obtain ⟨j, hj, hqj⟩ := hρi q hq
        have hoj : lops[j]? = some (lops[j]'(by omega)) := List.getElem?_eq_getElem (by omega)
        have hm := dIdx_mem (ops := lops.take k) (i := 0) (j := j) (by rw [List.getElem?_take_of_lt (by omega)]; exact hoj) (hdst j q _ hqj hoj)
        rw [Nat.zero_add] at hm
        have h4 := okTs_spec hdeps q.1 (inL_iff.1 hin') j hm
        exact ⟨j, hqj, h3 j (inL_iff.1 h4)⟩
      have hStq : St ds w W n a (kq (tl o) ((ρs.take i).reverse ++ []) ++ κ0) l Φ := by
        refine ⟨hO.st.size, hO.st.defers, fun t v ht => ?_, hO.st.below, hO.st.blk, hO.st.old, hO.st.dist, hO.st.fact⟩
        rcases lk_app ht with ht | ht
        · obtain ⟨e1, e2⟩ := kq_lk ht
          obtain ⟨j, hqj, hlj⟩ := hdep _ e2 e1
          exact hO.has j _ hqj hlj
        · exact hO.st.get t v ht
      have hHd : Hd (tl o) ((ρs.take i).reverse ++ []) a W := by
        intro q hq hin'
        obtain ⟨j, hqj, hlj⟩ := hdep q hq hin'
        exact ⟨bs j, hO.has j _ hqj hlj⟩
      have hy := hyl a W hStq hO.late hHd
      unfold wpOpIn
      rw [show (lops.toArray)[i]? = some o by simpa using h1]
      simp only
      rw [if_pos (by simp [Region.wanted, hg])]
      refine Yl.wpIn hnd' hy ?_
      rintro u W1 ⟨hlat, hmade⟩
      have hlen : i < listed.size := by rw [hO.size]; exact (List.getElem?_eq_some_iff.1 h1).1
      have hset : ∀ j, (listed.setIfInBounds i true).getD j false = true ↔ (j = i ∨ listed.getD j false = true) := by
        intro j
        by_cases e : i = j
        · subst e; simp [hlen]
        · rw [getD_set_ne false e]
          exact ⟨.inr, fun h => h.resolve_left (fun h => e h.symm)⟩
      have hdn := hn p.1 (hin i p hp)
      -- the block, if one is made
      obtain ⟨b, hb⟩ : ∃ b, p.2.holds b u W1 ∧ (p.2.isAl = true → W.heap.size ≤ b ∧ b < W1.heap.size) := by
        revert hmade
        cases p.2 with
        | q v => intro h; exact ⟨0, h, fun h => by cases h⟩
        | al f cs T => rintro ⟨b, e1, e2, e3⟩; exact ⟨b, ⟨e1, e3⟩, fun _ => ⟨e2, (Array.getElem?_eq_some_iff.1 e3).1⟩⟩
        | l R => intro h; exact ⟨0, h, fun h => by cases h⟩
      rw [hd]
      refine ih (fun j => if j = i then b else bs j) _ _ W1 ?_ ?_ ⟨?_, ?_, ?_, ?_, ?_, ?_, ?_⟩
      · have := cnt_set h2 hlen (N := lops.length) (by rw [← hO.size]; exact hlen); omega
      · intro j hj
        rw [getD_set_ne false (by omega)]; exact hlo j hj
      · have hg1 := hO.st.grow hlat
        have hput := hg1.put hdn u
        refine ⟨hput.size, hput.defers, fun t v ht => hput.get t v ?_, hput.below, hput.blk, hput.old, hput.dist, hput.fact⟩
        have hne : p.1 ≠ t := by
          have hmem := lk_mem ht
          intro e; subst e
          have := List.all_eq_true.1 hap _ hmem
          rw [inL_iff.2 (hin i p hp)] at this; cases this
        simp only [lk]
        rw [show Nat.beq p.1 t = false by rw [← Bool.not_eq_true]; intro e; exact hne (Nat.eq_of_beq_eq_true e)]
        exact ht
      · exact hO.late.trans hlat
      · simpa using hO.size
      · intro j oj hj hoj j' hj'
        rw [hset] at hj ⊢
        rcases hj with rfl | hj
        · rw [h1] at hoj; cases hoj
          exact .inr (h3 j' hj')
        · exact .inr (hO.down j oj hj hoj j' hj')
      · intro j q hqj hlj
        rw [hset] at hlj
        by_cases e : j = i
        · subst e
          rw [hp] at hqj; cases hqj
          rw [if_pos rfl]
          have hds : p.1 < a.tmps.size := by rw [hO.st.size]; exact Nat.blt_eq.mp hdn
          rw [show ((a.put (some p.1) u).tmps.getD p.1 undef) = u by rw [show (a.put (some p.1) u).tmps = a.tmps.setIfInBounds p.1 u from rfl, getD_put hds, if_pos rfl]]
          exact hb.1
        · rw [if_neg e]
          have hlj' := hlj.resolve_left e
          have hjk : j < k := by rw [← hρ]; exact (List.getElem?_eq_some_iff.1 hqj).1
          have hoj : lops[j]? = some (lops[j]'(by omega)) := List.getElem?_eq_getElem (by omega)
          rw [put_get (fun e' => e (hnd j i _ o q.1 hoj h1 hjk hik (hdst j q _ hqj hoj) (by rw [hd, e'])))]
          have hst' : q.2.stable := by
            obtain ⟨q', f1, f2, f3, _⟩ := hobl j _ hjk hoj
            rw [hqj] at f1; cases f1; exact f3
          exact Role.holds_later hst' (hO.has j q hqj hlj') hlat
      · intro j q hqj hlj hal
        rw [hset] at hlj
        by_cases e : j = i
        · subst e
          rw [hp] at hqj; cases hqj
          rw [if_pos rfl]
          have := hb.2 hal
          have := hO.late.size
          omega
        · rw [if_neg e]
          have := hO.new j q hqj (hlj.resolve_left e) hal
          have := hlat.size
          omega
      · intro j j' q q' hq hq' hlj hlj' hal hal' hne
        rw [hset] at hlj hlj'
        by_cases e : j = i
        · subst e
          rw [hp] at hq; cases hq
          rw [if_pos rfl, if_neg (fun e => hne e.symm)]
          have := hb.2 hal
          have := hO.new j' q' hq' (hlj'.resolve_left (fun e => hne e.symm)) hal'
          omega
        · by_cases e' : j' = i
          · subst e'
            rw [hp] at hq'; cases hq'
            rw [if_pos rfl, if_neg e]
            have := hb.2 hal'
            have := hO.new j q hq (hlj.resolve_left e) hal
            omega
          · rw [if_neg e, if_neg e']
            exact hO.dist j j' q q' hq hq' (hlj.resolve_left e) (hlj'.resolve_left e') hal hal' hne
theorem st_mix {id : Nat} {a : Act} {W : World} {κ : KV} (hm : P.follows .mixedOrders = true) (hB : mixB .any lops k = true) (hS : St ds w W n a κ l Φ) (hap : apartB κ (dstsOf lops k) = true) (hn : (dstsOf lops k).all (fun d => Nat.blt d n) = true)
    (h : Mix P r m lops.toArray Q ds w W n κ l Φ k [] lops) : (Code.region id lops.toArray true).wpIn (Fw r) m P Q a W := by
  refine wpIn_region_any hm ?_
  have hk : k ≤ lops.length := by
    simp only [mixB, Bool.and_eq_true] at hB
    exact Nat.ble_eq.mp hB.1.1
  have hB2 : (dstsOf lops k).Nodup := by simp only [mixB, Bool.and_eq_true] at hB; exact nodupB_spec hB.1.2
  have hB3 := hB
  simp only [mixB, Bool.and_eq_true] at hB3
  have hspec := okFrom_spec lops 0 hB3.2
  obtain ⟨ρs, e1, e2, e3, e4⟩ := Mix.roles k [] lops h
  have hpre : ∀ i o, lops[i]? = some o → i < k → okPre .any (dIdx 0 (lops.take k)) i o = true := fun i o ho hi => by
    have := hspec i o ho; rw [Nat.zero_add, if_pos hi] at this; exact this
  have hl : Later W { W with drawn := W.drawn + 1 } := ⟨rfl, rfl, rfl, Nat.le_refl _, fun _ _ => rfl⟩
  refine mix_any (W0 := W) (ρs := ρs) (md := .any) hk e1 hap e3 (fun d hd => List.all_eq_true.1 hn d hd) hpre (fun i o ho hi => by
    have := hspec i o ho; rw [Nat.zero_add, if_neg (by omega)] at this; exact this) ?_ (fun B hB => hS.lt hB) hS.fact hS.below.size e4 _ (fun _ => 0) _ a _ ?_ ?_ ⟨hS.grow hl, hl, by simp, ?_, ?_, ?_, ?_⟩
  · intro i j o o' d hi hj hik hjk hd hd'
    -- distinct positions have distinct temporaries
    have key : ∀ (xs : List Oper) (i j : Nat) (o o' : Oper), (xs.filterMap (·.dst)).Nodup → xs[i]? = some o → xs[j]? = some o' → o.dst = some d → o'.dst = some d → i = j := by
      intro xs
      induction xs with
      | nil => intro i j o o' _ h; simp at h
      | cons x xs ih =>
        intro i j o o' hN h1 h2 h3 h4
        have hN' : (xs.filterMap (·.dst)).Nodup := by
          cases hx : x.dst with
          | none => rw [List.filterMap_cons_none hx] at hN; exact hN
          | some y => rw [List.filterMap_cons_some hx] at hN; exact (List.nodup_cons.1 hN).2
        cases i with
        | zero =>
          cases j with
          | zero => rfl
          | succ j =>
            simp only [List.getElem?_cons_zero, Option.some.injEq] at h1
            subst h1
            rw [List.filterMap_cons_some h3] at hN
            exact absurd (List.mem_filterMap.2 ⟨o', List.mem_of_getElem? (by simpa using h2), h4⟩) (List.nodup_cons.1 hN).1
        | succ i =>
          cases j with
          | zero =>
            simp only [List.getElem?_cons_zero, Option.some.injEq] at h2
            subst h2
            rw [List.filterMap_cons_some h4] at hN
            exact absurd (List.mem_filterMap.2 ⟨o, List.mem_of_getElem? (by simpa using h1), h3⟩) (List.nodup_cons.1 hN).1
          | succ j => rw [ih i j o o' hN' (by simpa using h1) (by simpa using h2) h3 h4]
    exact key (lops.take k) i j o o' hB2 (by rw [List.getElem?_take_of_lt hik]; exact hi) (by rw [List.getElem?_take_of_lt hjk]; exact hj) hd hd'
  · have hz : ∀ N, N ≤ lops.length → cnt (Array.replicate lops.length false) N = N := by
      intro N
      induction N with
      | zero => intro _; rfl
      | succ N ih => intro hN; simp only [cnt]; rw [ih (by omega)]; simp [show N < lops.length by omega]
    simpa using hz lops.length (Nat.le_refl _)
  · intro i _; by_cases h : i < lops.length <;> simp [h]
  · intro i o h; by_cases hi : i < lops.length <;> simp [hi] at h
  · intro i p _ h; by_cases hi : i < lops.length <;> simp [hi] at h
  · intro i p _ h; by_cases hi : i < lops.length <;> simp [hi] at h
  · intro i j p p' _ _ h; by_cases hi : i < lops.length <;> simp [hi] at h
section
variable {ρ : List (Nat × Role)} {rest : List Oper} {d : Nat} {op : Op} {ty : TypeId} {pos : String} {af : Array Edge} {g : Option (Nat × Bool)} {v : Value}
theorem mx_v (hr : ∀ a W, St ds w W n a (kq (tl ⟨some d, op, ty, pos, af, g⟩) ρ ++ κ0) l Φ → Later W0 W → (execOp a.eval ⟨some d, op, ty, pos, af, g⟩).run P W = .ok (.value v) W)
    (K : Mix P r m ops Q ds w W0 n κ0 l Φ k ((d, .q v) :: ρ) rest) : Mix P r m ops Q ds w W0 n κ0 l Φ (k + 1) ρ (⟨some d, op, ty, pos, af, g⟩ :: rest) :=
  ⟨d, .q v, rfl, ⟨trivial, fun a W hS hL _ => .inl ⟨v, W, hr a W hS hL, Later.refl W, rfl⟩⟩, K⟩
theorem exec_call {f : FuncId} {args : Array Operand} {vs : List Value} {tys : Array TypeId} {κ : KV} {a : Act} {W : World} (hf : Enters P f) (hS : St ds w W n a κ l Φ) (hx : evs κ args.toList = some vs) :
    (execOp a.eval ⟨some d, .call { callee := .value (.func f), args := args, argTypes := tys }, ty, pos, af, g⟩).run P W = .ok (.enter f vs.toArray) W := by
  have h1 : args.map a.eval = vs.toArray := by rw [← hS.evs hx, ← Array.toList_map]
  have h2 := hf vs.toArray W
  simp only [execOp, resolve, Act.eval, Deferred.ofValue]
  simp [invoke, h1, h2]
theorem mx_call {f : FuncId} {args : Array Operand} {vs : List Value} {tys : Array TypeId} (hf : Enters P f)
    (hx : evs (kq (tl ⟨some d, .call { callee := .value (.func f), args := args, argTypes := tys }, ty, pos, af, g⟩) ρ ++ κ0) args.toList = some vs)
    (hc : ∀ a W, St ds w W n a (kq (tl ⟨some d, .call { callee := .value (.func f), args := args, argTypes := tys }, ty, pos, af, g⟩) ρ ++ κ0) l Φ → Later W0 W → Ret P f vs W (fun u _ => u = v))
    (K : Mix P r m ops Q ds w W0 n κ0 l Φ k ((d, .q v) :: ρ) rest) : Mix P r m ops Q ds w W0 n κ0 l Φ (k + 1) ρ (⟨some d, .call { callee := .value (.func f), args := args, argTypes := tys }, ty, pos, af, g⟩ :: rest) :=
  ⟨d, .q v, rfl, ⟨trivial, fun a W hS hL _ => .inr ⟨f, vs.toArray, exec_call hf hS hx, Calls.mono (hc a W hS hL) fun e W' ⟨u, he, hb, hu⟩ => ⟨u, he, And.intro hb hu⟩⟩⟩, K⟩
theorem mx_call_l {f : FuncId} {args : Array Operand} {vs : List Value} {tys : Array TypeId} (R : Value → World → Prop) (hst : ∀ u W W', R u W → Later W W' → R u W') (hf : Enters P f)
    (hx : evs (kq (tl ⟨some d, .call { callee := .value (.func f), args := args, argTypes := tys }, ty, pos, af, g⟩) ρ ++ κ0) args.toList = some vs)
    (hc : ∀ a W, St ds w W n a (kq (tl ⟨some d, .call { callee := .value (.func f), args := args, argTypes := tys }, ty, pos, af, g⟩) ρ ++ κ0) l Φ → Later W0 W → Ret P f vs W R)
    (K : Mix P r m ops Q ds w W0 n κ0 l Φ k ((d, .l R) :: ρ) rest) : Mix P r m ops Q ds w W0 n κ0 l Φ (k + 1) ρ (⟨some d, .call { callee := .value (.func f), args := args, argTypes := tys }, ty, pos, af, g⟩ :: rest) :=
  ⟨d, .l R, rfl, ⟨hst, fun a W hS hL _ => .inr ⟨f, vs.toArray, exec_call hf hS hx, Calls.mono (hc a W hS hL) fun e W' ⟨u, he, hb, hu⟩ => ⟨u, he, And.intro hb hu⟩⟩⟩, K⟩
theorem mx_end {lops : List Oper} (h : ∀ a W bs us, St ds w W n a (kall bs us 0 ρ ++ κ0) (ball bs 0 ρ ++ l) Φ → Later W0 W → lall us W 0 ρ → wpListIn (Fw r) m P ops Q lops a W) : Mix P r m ops Q ds w W0 n κ0 l Φ 0 ρ lops := h
end
end
end Go.Proofs.YtdnodlgebpnfoaaGreat
namespace Go.Proofs.YtdnodlgebpnfoaaGreat.Sw
structure Tab where
  X : List Int
  Y : List Int
  V : List (List Int)
def ix (l : List Int) (i : Nat) : Int := l.getD i 0
def rowOf (l : List (List Int)) (i : Nat) : List Int := l.getD i []
def within (n lo hi : Int) : Bool := decide (lo ≤ n) && decide (n ≤ hi)
def axisOk (l : List Int) : Bool :=
  decide (2 ≤ l.length) && decide (l.length ≤ 12) &&
    (List.range l.length).all fun i => within (ix l i) (-1000000) 1000000 && (i == 0 || within (ix l i - ix l (i - 1)) 1 10000)
def tabOk (t : Tab) : Bool :=
  axisOk t.X && axisOk t.Y && decide (t.V.length = t.X.length) &&
    t.V.all fun row => decide (row.length = t.Y.length) && row.all fun n => within n (-1000000) 1000000
structure Axis (l : List Int) : Prop where
  two : 2 ≤ l.length
  most : l.length ≤ 12
  low : ∀ i, i < l.length → -1000000 ≤ ix l i
  high : ∀ i, i < l.length → ix l i ≤ 1000000
  step : ∀ i, i + 1 < l.length → 1 ≤ ix l (i + 1) - ix l i ∧ ix l (i + 1) - ix l i ≤ 10000
theorem axis_iff (l : List Int) : axisOk l = true ↔ Axis l := by
  unfold axisOk within
  simp only [Bool.and_eq_true, decide_eq_true_eq, List.all_eq_true, List.mem_range, Bool.or_eq_true, beq_iff_eq]
  constructor
  · rintro ⟨⟨h1, h2⟩, h3⟩
    refine ⟨h1, h2, fun i hi => (h3 i hi).1.1, fun i hi => (h3 i hi).1.2, fun i hi => ?_⟩
    have := (h3 (i + 1) hi).2
    simpa using this
  · rintro ⟨h1, h2, h3, h4, h5⟩
    refine ⟨⟨h1, h2⟩, fun i hi => ⟨⟨h3 i hi, h4 i hi⟩, ?_⟩⟩
    rcases i with _ | i
    · exact .inl rfl
    · exact .inr (by simpa using h5 i hi)
def axisGood (l : List Int) (i : Nat) : Bool := within (ix l i) (-1000000) 1000000 && (i == 0 || within (ix l i - ix l (i - 1)) 1 10000)
theorem axisOk_eq (l : List Int) : axisOk l = (within (l.length : Int) 2 12 && (List.range l.length).all (axisGood l)) := by
  unfold axisOk axisGood within
  congr 1
  rw [Bool.eq_iff_iff]; simp; omega
theorem axisOk_len {l : List Int} (h : within (l.length : Int) 2 12 = false) : axisOk l = false := by rw [axisOk_eq, h]; rfl
theorem axisOk_bad {l : List Int} {i : Nat} (hi : i < l.length) (h : axisGood l i = false) : axisOk l = false := by
  rw [axisOk_eq, Bool.and_eq_false_iff]
  refine .inr ?_
  rw [List.all_eq_false]
  exact ⟨i, by simpa using hi, by simp [h]⟩
theorem axisOk_good {l : List Int} (h0 : within (l.length : Int) 2 12 = true) (h : ∀ i, i < l.length → axisGood l i = true) : axisOk l = true := by
  rw [axisOk_eq, h0, Bool.true_and, List.all_eq_true]
  intro i hi
  exact h i (by simpa using hi)
theorem Axis.lt {l : List Int} (h : Axis l) {i j : Nat} (hij : i < j) (hj : j < l.length) : ix l i < ix l j := by
  induction j with
  | zero => omega
  | succ j ih =>
    have := (h.step j hj).1
    rcases Nat.lt_or_eq_of_le (Nat.le_of_lt_succ hij) with h1 | h1
    · have := ih h1 (by omega); omega
    · subst h1; omega
theorem Axis.le {l : List Int} (h : Axis l) {i j : Nat} (hij : i ≤ j) (hj : j < l.length) : ix l i ≤ ix l j := by
  rcases Nat.lt_or_eq_of_le hij with h1 | h1
  · exact Int.le_of_lt (h.lt h1 hj)
  · subst h1; exact Int.le_refl _
theorem mem_ix {l : List Int} {x : Int} : x ∈ l ↔ ∃ i, i < l.length ∧ ix l i = x := by
  rw [List.mem_iff_getElem]
  constructor
  · rintro ⟨i, hi, h⟩; exact ⟨i, hi, by simp [ix, List.getD_eq_getElem?_getD, hi, h]⟩
  · rintro ⟨i, hi, h⟩; exact ⟨i, hi, by simpa [ix, List.getD_eq_getElem?_getD, hi] using h⟩
def lastOf (l : List Int) : Int := ix l (l.length - 1)
def lies (l : List Int) (lo hi : Int) : Bool := decide (ix l 0 ≤ lo) && decide (hi ≤ lastOf l)
def rowGood (t : Tab) (row : List Int) : Bool := decide (row.length = t.Y.length) && row.all fun n => within n (-1000000) 1000000
theorem tabOk_eq (t : Tab) : tabOk t = (axisOk t.X && axisOk t.Y && decide (t.V.length = t.X.length) && t.V.all (rowGood t)) := rfl
theorem getD_mem {α : Type} {l : List α} {i : Nat} {d : α} (h : i < l.length) : l.getD i d ∈ l := by
  simp [List.getD_eq_getElem?_getD, h]
theorem all_bad {α : Type} {l : List α} {p : α → Bool} {i : Nat} {d : α} (h : i < l.length) (hp : p (l.getD i d) = false) : l.all p = false := by
  rw [List.all_eq_false]
  exact ⟨l.getD i d, getD_mem h, by rw [hp]; simp⟩
theorem all_good {α : Type} {l : List α} {p : α → Bool} {d : α} (hp : ∀ i, i < l.length → p (l.getD i d) = true) : l.all p = true := by
  rw [List.all_eq_true]
  intro x hx
  obtain ⟨i, hi, rfl⟩ := List.mem_iff_getElem.1 hx
  have := hp i hi
  simpa [List.getD_eq_getElem?_getD, hi] using this
theorem any_good {α : Type} {l : List α} {p : α → Bool} {i : Nat} {d : α} (h : i < l.length) (hp : p (l.getD i d) = true) : l.any p = true := by
  rw [List.any_eq_true]
  exact ⟨l.getD i d, getD_mem h, hp⟩
theorem any_bad {α : Type} {l : List α} {p : α → Bool} {d : α} (hp : ∀ i, i < l.length → p (l.getD i d) = false) : l.any p = false := by
  rw [List.any_eq_false]
  intro x hx
  obtain ⟨i, hi, rfl⟩ := List.mem_iff_getElem.1 hx
  have := hp i hi
  simpa [List.getD_eq_getElem?_getD, hi] using this
theorem tabOk_row {t : Tab} {i : Nat} (h : i < t.V.length) (hb : rowGood t (rowOf t.V i) = false) : tabOk t = false := by
  rw [tabOk_eq, all_bad (d := []) h hb, Bool.and_false]
def InCell (l : List Int) (i : Nat) (x : Int) : Prop := i + 1 < l.length ∧ ix l i ≤ x ∧ x ≤ ix l (i + 1)
theorem cell_ex {l : List Int} (h : Axis l) {x : Int} (h0 : ix l 0 ≤ x) (h1 : x ≤ lastOf l) : ∃ i, InCell l i x := by
  unfold lastOf at h1
  have key : ∀ n, n + 1 < l.length → x ≤ ix l (n + 1) → ∃ i, InCell l i x := by
    intro n
    induction n with
    | zero => intro hn hx; exact ⟨0, hn, h0, hx⟩
    | succ n ih =>
      intro hn hx
      by_cases hc : x ≤ ix l (n + 1)
      · exact ih (by omega) hc
      · exact ⟨n + 1, hn, by omega, hx⟩
  have h2 := h.two
  exact key (l.length - 2) (by omega) (by rwa [show l.length - 2 + 1 = l.length - 1 by omega])
def vat (t : Tab) (i k : Nat) : Int := ix (rowOf t.V i) k
def num (t : Tab) (i k : Nat) (x y : Int) : Int :=
  (ix t.X (i + 1) - x) * (ix t.Y (k + 1) - y) * vat t i k + (x - ix t.X i) * (ix t.Y (k + 1) - y) * vat t (i + 1) k +
    (ix t.X (i + 1) - x) * (y - ix t.Y k) * vat t i (k + 1) + (x - ix t.X i) * (y - ix t.Y k) * vat t (i + 1) (k + 1)
def den (t : Tab) (i k : Nat) : Int := (ix t.X (i + 1) - ix t.X i) * (ix t.Y (k + 1) - ix t.Y k)
def fl (n d : Int) : Int := n / d
def ce (n d : Int) : Int := -(-n / d)
theorem fl_mono {a b d : Int} (hd : 0 < d) (h : a ≤ b) : fl a d ≤ fl b d := Int.ediv_le_ediv hd h
theorem ce_mono {a b d : Int} (hd : 0 < d) (h : a ≤ b) : ce a d ≤ ce b d := by
  unfold ce
  have := Int.ediv_le_ediv hd (show -b ≤ -a by omega)
  omega
theorem fl_le_ce (n : Int) {d : Int} (hd : 0 < d) : fl n d ≤ ce n d := by
  unfold fl ce
  have h1 := Int.ediv_mul_le n (Int.ne_of_gt hd)
  have h2 := Int.ediv_mul_le (-n) (Int.ne_of_gt hd)
  have h3 : (n / d + -n / d) * d ≤ 0 := by rw [Int.add_mul]; omega
  have : n / d + -n / d ≤ 0 := by
    apply Int.not_lt.1
    intro h
    have := Int.mul_pos h hd
    omega
  omega
theorem fl_eq {a b c d : Int} (hb : 0 < b) (hd : 0 < d) (h : a * d = c * b) : fl a b = fl c d := by
  unfold fl
  have h1 : a / b = (a * d) / (b * d) := (Int.mul_ediv_mul_of_pos_left a b hd).symm
  have h2 : c / d = (c * b) / (d * b) := (Int.mul_ediv_mul_of_pos_left c d hb).symm
  rw [h1, h2, h, Int.mul_comm b d]
theorem ce_eq {a b c d : Int} (hb : 0 < b) (hd : 0 < d) (h : a * d = c * b) : ce a b = ce c d := by
  unfold ce
  have := fl_eq (a := -a) (c := -c) hb hd (by rw [Int.neg_mul, Int.neg_mul, h])
  unfold fl at this
  rw [this]
theorem den_pos {t : Tab} (hX : Axis t.X) (hY : Axis t.Y) {i k : Nat} (hi : i + 1 < t.X.length) (hk : k + 1 < t.Y.length) : 0 < den t i k :=
  Int.mul_pos (by have := hX.step i hi; omega) (by have := hY.step k hk; omega)
theorem cell_two {l : List Int} (h : Axis l) {i j : Nat} {x : Int} (hi : InCell l i x) (hj : InCell l j x) (hne : i < j) : j = i + 1 ∧ x = ix l j := by
  obtain ⟨a1, a2, a3⟩ := hi
  obtain ⟨b1, b2, b3⟩ := hj
  have : j = i + 1 := by
    apply Classical.byContradiction
    intro hc
    have := h.lt (show i + 1 < j by omega) (by omega)
    omega
  subst this
  exact ⟨rfl, by omega⟩
theorem same_x {t : Tab} (hX : Axis t.X) {i j k : Nat} {x y : Int} (hi : InCell t.X i x) (hj : InCell t.X j x) : num t i k x y * den t j k = num t j k x y * den t i k := by
  have key : ∀ {i j : Nat}, InCell t.X i x → InCell t.X j x → i < j → num t i k x y * den t j k = num t j k x y * den t i k := by
    intro i j hi hj hlt
    obtain ⟨rfl, hx⟩ := cell_two hX hi hj hlt
    unfold num den
    rw [hx]
    generalize vat t (i + 1) k = v1
    generalize vat t (i + 1) (k + 1) = v2
    generalize vat t i k = v3
    generalize vat t i (k + 1) = v4
    generalize vat t (i + 1 + 1) k = v5
    generalize vat t (i + 1 + 1) (k + 1) = v6
    grind
  rcases Nat.lt_trichotomy i j with h | h | h
  · exact key hi hj h
  · subst h; rfl
  · exact (key hj hi h).symm
theorem same_y {t : Tab} (hY : Axis t.Y) {i j k : Nat} {x y : Int} (hi : InCell t.Y i y) (hj : InCell t.Y j y) : num t k i x y * den t k j = num t k j x y * den t k i := by
  have key : ∀ {i j : Nat}, InCell t.Y i y → InCell t.Y j y → i < j → num t k i x y * den t k j = num t k j x y * den t k i := by
    intro i j hi hj hlt
    obtain ⟨rfl, hx⟩ := cell_two hY hi hj hlt
    unfold num den
    rw [hx]
    generalize vat t k i = v1
    generalize vat t k (i + 1) = v2
    generalize vat t k (i + 1 + 1) = v3
    generalize vat t (k + 1) i = v4
    generalize vat t (k + 1) (i + 1) = v5
    generalize vat t (k + 1) (i + 1 + 1) = v6
    grind
  rcases Nat.lt_trichotomy i j with h | h | h
  · exact key hi hj h
  · subst h; rfl
  · exact (key hj hi h).symm
theorem fl_cell {t : Tab} (hX : Axis t.X) (hY : Axis t.Y) {i j k m : Nat} {x y : Int} (hi : InCell t.X i x) (hj : InCell t.X j x) (hk : InCell t.Y k y) (hm : InCell t.Y m y) :
    fl (num t i k x y) (den t i k) = fl (num t j m x y) (den t j m) ∧ ce (num t i k x y) (den t i k) = ce (num t j m x y) (den t j m) := by
  have p1 := den_pos hX hY hi.1 hk.1
  have p2 := den_pos hX hY hj.1 hk.1
  have p3 := den_pos hX hY hj.1 hm.1
  have e1 := same_x (k := k) (y := y) hX hi hj
  have e2 := same_y (k := j) (x := x) hY hk hm
  exact ⟨(fl_eq p1 p2 e1).trans (fl_eq p2 p3 e2), (ce_eq p1 p2 e1).trans (ce_eq p2 p3 e2)⟩
def cellAt (l : List Int) (x : Int) : Nat := ((l.tail.dropLast).filter fun k => decide (k < x)).length
def lowAt (t : Tab) (x y : Int) : Int := fl (num t (cellAt t.X x) (cellAt t.Y y) x y) (den t (cellAt t.X x) (cellAt t.Y y))
def highAt (t : Tab) (x y : Int) : Int := ce (num t (cellAt t.X x) (cellAt t.Y y) x y) (den t (cellAt t.X x) (cellAt t.Y y))
theorem inner_len (l : List Int) : (l.tail.dropLast).length = l.length - 2 := by simp; omega
theorem inner_get (l : List Int) (i : Nat) (h : i + 2 < l.length) : (l.tail.dropLast)[i]'(by rw [inner_len]; omega) = ix l (i + 1) := by
  rw [List.getElem_dropLast, List.getElem_tail]
  simp [ix, List.getD_eq_getElem?_getD, show i + 1 < l.length by omega]
theorem filter_prefix {l : List Int} (p : Int → Bool) (n : Nat) (hn : n ≤ l.length) (h1 : ∀ i (h : i < l.length), i < n → p l[i] = true) (h2 : ∀ i (h : i < l.length), n ≤ i → p l[i] = false) : (l.filter p).length = n := by
  induction l generalizing n with
  | nil => simp at hn; subst hn; rfl
  | cons a l ih =>
    rcases n with _ | n
    · have : (a :: l).filter p = [] := by
        rw [List.filter_eq_nil_iff]
        intro b hb
        obtain ⟨i, hi, rfl⟩ := List.mem_iff_getElem.1 hb
        simp [h2 i hi (Nat.zero_le _)]
      rw [this]; rfl
    · have ha : p a = true := h1 0 (by simp) (by omega)
      rw [List.filter_cons_of_pos ha, List.length_cons, ih n (by simpa using hn) (fun i h hi => h1 (i + 1) (by simpa using h) (by omega)) (fun i h hi => h2 (i + 1) (by simpa using h) (by omega))]
theorem cellAt_of {l : List Int} (h : Axis l) {x : Int} {i : Nat} (hi : i + 1 < l.length) (h1 : i = 0 ∨ ix l i < x) (h2 : i + 2 = l.length ∨ x ≤ ix l (i + 1)) : cellAt l x = i := by
  unfold cellAt
  apply filter_prefix
  · rw [inner_len]; omega
  · intro j hj hji
    rw [inner_len] at hj
    rw [inner_get l j (by omega)]
    have := h.le (show j + 1 ≤ i by omega) (by omega)
    simp only [decide_eq_true_eq]
    omega
  · intro j hj hji
    rw [inner_len] at hj
    rw [inner_get l j (by omega)]
    have := h.le (show i + 1 ≤ j + 1 by omega) (by omega)
    simp only [decide_eq_false_iff_not]
    omega
theorem cellAt_in {l : List Int} (h : Axis l) {x : Int} (h0 : ix l 0 ≤ x) (h1 : x ≤ lastOf l) : InCell l (cellAt l x) x := by
  have key : ∀ n, n + 1 < l.length → (n = 0 ∨ ix l n < x) → ∃ i, i + 1 < l.length ∧ (i = 0 ∨ ix l i < x) ∧ (i + 2 = l.length ∨ x ≤ ix l (i + 1)) := by
    intro n
    induction hk : l.length - n generalizing n with
    | zero => intro h; omega
    | succ k ih =>
      intro hn hx
      by_cases hc : n + 2 = l.length ∨ x ≤ ix l (n + 1)
      · exact ⟨n, hn, hx, hc⟩
      · exact ih (n + 1) (by omega) (by omega) (.inr (by omega))
  have h2 := h.two
  obtain ⟨i, hi, ha, hb⟩ := key 0 (by omega) (.inl rfl)
  rw [cellAt_of h hi ha hb]
  refine ⟨hi, ?_, ?_⟩
  · rcases ha with rfl | ha
    · exact h0
    · omega
  · rcases hb with hb | hb
    · unfold lastOf at h1
      rwa [show l.length - 1 = i + 1 by omega] at h1
    · exact hb
theorem lowAt_cell {t : Tab} (hX : Axis t.X) (hY : Axis t.Y) {i k : Nat} {x y : Int} (hi : InCell t.X i x) (hk : InCell t.Y k y) : lowAt t x y = fl (num t i k x y) (den t i k) ∧ highAt t x y = ce (num t i k x y) (den t i k) := by
  have on : ∀ {l : List Int} (_ : Axis l) {i : Nat} {x : Int}, InCell l i x → InCell l (cellAt l x) x := by
    intro l h i x hc
    obtain ⟨a, b, c⟩ := hc
    refine cellAt_in h (Int.le_trans (h.le (Nat.zero_le i) (by omega)) b) (Int.le_trans c ?_)
    exact h.le (by omega) (by omega)
  exact fl_cell hX hY (on hX hi) hi (on hY hk) hk
theorem affine {A B x a b : Int} (h1 : a ≤ x) (h2 : x ≤ b) : min (A * a + B) (A * b + B) ≤ A * x + B ∧ A * x + B ≤ max (A * a + B) (A * b + B) := by
  rcases Int.le_total 0 A with h | h
  · have := Int.mul_le_mul_of_nonneg_left h1 h
    have := Int.mul_le_mul_of_nonneg_left h2 h
    omega
  · have := Int.mul_le_mul_of_nonpos_left h h1
    have := Int.mul_le_mul_of_nonpos_left h h2
    omega
theorem num_x (t : Tab) (i k : Nat) (y : Int) : ∃ A B, ∀ x, num t i k x y = A * x + B :=
  ⟨(ix t.Y (k + 1) - y) * vat t (i + 1) k - (ix t.Y (k + 1) - y) * vat t i k + (y - ix t.Y k) * vat t (i + 1) (k + 1) - (y - ix t.Y k) * vat t i (k + 1),
   ix t.X (i + 1) * (ix t.Y (k + 1) - y) * vat t i k - ix t.X i * (ix t.Y (k + 1) - y) * vat t (i + 1) k + ix t.X (i + 1) * (y - ix t.Y k) * vat t i (k + 1) - ix t.X i * (y - ix t.Y k) * vat t (i + 1) (k + 1),
   fun x => by unfold num; grind⟩
theorem num_y (t : Tab) (i k : Nat) (x : Int) : ∃ A B, ∀ y, num t i k x y = A * y + B :=
  ⟨(ix t.X (i + 1) - x) * vat t i (k + 1) - (ix t.X (i + 1) - x) * vat t i k + (x - ix t.X i) * vat t (i + 1) (k + 1) - (x - ix t.X i) * vat t (i + 1) k,
   (ix t.X (i + 1) - x) * ix t.Y (k + 1) * vat t i k - (ix t.X (i + 1) - x) * ix t.Y k * vat t i (k + 1) + (x - ix t.X i) * ix t.Y (k + 1) * vat t (i + 1) k - (x - ix t.X i) * ix t.Y k * vat t (i + 1) (k + 1),
   fun x => by unfold num; grind⟩
theorem between_x {t : Tab} (hX : Axis t.X) (hY : Axis t.Y) {i : Nat} {a x b y : Int} {k : Nat} (ha : InCell t.X i a) (hb : InCell t.X i b) (h1 : a ≤ x) (h2 : x ≤ b) (hk : InCell t.Y k y) :
    min (lowAt t a y) (lowAt t b y) ≤ lowAt t x y ∧ highAt t x y ≤ max (highAt t a y) (highAt t b y) := by
  have hx : InCell t.X i x := ⟨ha.1, by have := ha.2.1; omega, by have := hb.2.2; omega⟩
  have hd := den_pos hX hY ha.1 hk.1
  obtain ⟨e1, f1⟩ := lowAt_cell hX hY ha hk
  obtain ⟨e2, f2⟩ := lowAt_cell hX hY hb hk
  obtain ⟨e3, f3⟩ := lowAt_cell hX hY hx hk
  rw [e1, e2, e3, f1, f2, f3]
  obtain ⟨A, B, h⟩ := num_x t i k y
  have haf := affine (A := A) (B := B) h1 h2
  rw [h a, h b, h x]
  constructor
  · rcases Int.le_total (A * a + B) (A * b + B) with hc | hc
    · have := fl_mono hd (show A * a + B ≤ A * x + B by omega); omega
    · have := fl_mono hd (show A * b + B ≤ A * x + B by omega); omega
  · rcases Int.le_total (A * a + B) (A * b + B) with hc | hc
    · have := ce_mono hd (show A * x + B ≤ A * b + B by omega); omega
    · have := ce_mono hd (show A * x + B ≤ A * a + B by omega); omega
theorem between_y {t : Tab} (hX : Axis t.X) (hY : Axis t.Y) {k : Nat} {a y b x : Int} {i : Nat} (ha : InCell t.Y k a) (hb : InCell t.Y k b) (h1 : a ≤ y) (h2 : y ≤ b) (hi : InCell t.X i x) :
    min (lowAt t x a) (lowAt t x b) ≤ lowAt t x y ∧ highAt t x y ≤ max (highAt t x a) (highAt t x b) := by
  have hx : InCell t.Y k y := ⟨ha.1, by have := ha.2.1; omega, by have := hb.2.2; omega⟩
  have hd := den_pos hX hY hi.1 ha.1
  obtain ⟨e1, f1⟩ := lowAt_cell hX hY hi ha
  obtain ⟨e2, f2⟩ := lowAt_cell hX hY hi hb
  obtain ⟨e3, f3⟩ := lowAt_cell hX hY hi hx
  rw [e1, e2, e3, f1, f2, f3]
  obtain ⟨A, B, h⟩ := num_y t i k x
  have haf := affine (A := A) (B := B) h1 h2
  rw [h a, h b, h y]
  constructor
  · rcases Int.le_total (A * a + B) (A * b + B) with hc | hc
    · have := fl_mono hd (show A * a + B ≤ A * y + B by omega); omega
    · have := fl_mono hd (show A * b + B ≤ A * y + B by omega); omega
  · rcases Int.le_total (A * a + B) (A * b + B) with hc | hc
    · have := ce_mono hd (show A * y + B ≤ A * b + B by omega); omega
    · have := ce_mono hd (show A * y + B ≤ A * a + B by omega); omega
def stops (l : List Int) (lo hi : Int) : List Int := lo :: ((l.filter fun x => decide (lo < x) && decide (x < hi)) ++ (if lo < hi then [hi] else []))
theorem mem_stops {l : List Int} {lo hi s : Int} (h : lo ≤ hi) : s ∈ stops l lo hi ↔ lo ≤ s ∧ s ≤ hi ∧ (s = lo ∨ s = hi ∨ s ∈ l) := by
  unfold stops
  simp only [List.mem_cons, List.mem_append, List.mem_filter, Bool.and_eq_true, decide_eq_true_eq]
  by_cases hc : lo < hi
  · simp only [hc, if_true, List.mem_singleton]
    constructor
    · rintro (rfl | ⟨h1, h2, h3⟩ | rfl)
      · exact ⟨Int.le_refl _, h, .inl rfl⟩
      · exact ⟨by omega, by omega, .inr (.inr h1)⟩
      · exact ⟨h, Int.le_refl _, .inr (.inl rfl)⟩
    · rintro ⟨h1, h2, rfl | rfl | h3⟩
      · exact .inl rfl
      · exact .inr (.inr rfl)
      · by_cases ha : s = lo
        · exact .inl ha
        · by_cases hb : s = hi
          · exact .inr (.inr hb)
          · exact .inr (.inl ⟨h3, by omega, by omega⟩)
  · simp only [hc, if_false, List.not_mem_nil, or_false]
    constructor
    · rintro (rfl | ⟨h1, h2, h3⟩)
      · exact ⟨Int.le_refl _, h, .inl rfl⟩
      · exact ⟨by omega, by omega, .inr (.inr h1)⟩
    · rintro ⟨h1, h2, _⟩; exact .inl (by omega)
theorem stop_pair {l : List Int} (h : Axis l) {lo hi x : Int} (h0 : ix l 0 ≤ lo) (h1 : hi ≤ lastOf l) (ha : lo ≤ x) (hb : x ≤ hi) :
    ∃ i a b, a ∈ stops l lo hi ∧ b ∈ stops l lo hi ∧ InCell l i a ∧ InCell l i b ∧ a ≤ x ∧ x ≤ b := by
  obtain ⟨i, h3, h4, h5⟩ := cell_ex h (x := x) (by omega) (by omega)
  have hle : lo ≤ hi := by omega
  have hst := h.step i h3
  refine ⟨i, max lo (ix l i), min hi (ix l (i + 1)), (mem_stops hle).2 ?_, (mem_stops hle).2 ?_, ⟨h3, by omega, by omega⟩, ⟨h3, by omega, by omega⟩, by omega, by omega⟩
  · refine ⟨by omega, by omega, ?_⟩
    by_cases hc : ix l i ≤ lo
    · exact .inl (by omega)
    · exact .inr (.inr (mem_ix.2 ⟨i, by omega, by omega⟩))
  · refine ⟨by omega, by omega, ?_⟩
    by_cases hc : hi ≤ ix l (i + 1)
    · exact .inr (.inl (by omega))
    · exact .inr (.inr (mem_ix.2 ⟨i + 1, by omega, by omega⟩))
def minL : List Int → Int
  | [] => 0
  | a :: l => l.foldl min a
def maxL : List Int → Int
  | [] => 0
  | a :: l => l.foldl max a
theorem foldl_min (l : List Int) : ∀ a, l.foldl min a ≤ a ∧ (∀ b ∈ l, l.foldl min a ≤ b) ∧ (l.foldl min a = a ∨ l.foldl min a ∈ l) := by
  induction l with
  | nil => intro a; simp
  | cons c l ih =>
    intro a
    obtain ⟨h1, h2, h3⟩ := ih (min a c)
    simp only [List.foldl_cons]
    refine ⟨by omega, ?_, ?_⟩
    · intro b hb
      rcases List.mem_cons.1 hb with rfl | hb
      · omega
      · exact h2 b hb
    · rcases h3 with h3 | h3
      · rcases Int.le_total a c with hc | hc
        · exact .inl (by omega)
        · exact .inr (List.mem_cons.2 (.inl (by omega)))
      · exact .inr (List.mem_cons_of_mem _ h3)
theorem foldl_max (l : List Int) : ∀ a, a ≤ l.foldl max a ∧ (∀ b ∈ l, b ≤ l.foldl max a) ∧ (l.foldl max a = a ∨ l.foldl max a ∈ l) := by
  induction l with
  | nil => intro a; simp
  | cons c l ih =>
    intro a
    obtain ⟨h1, h2, h3⟩ := ih (max a c)
    simp only [List.foldl_cons]
    refine ⟨by omega, ?_, ?_⟩
    · intro b hb
      rcases List.mem_cons.1 hb with rfl | hb
      · omega
      · exact h2 b hb
    · rcases h3 with h3 | h3
      · rcases Int.le_total a c with hc | hc
        · exact .inr (List.mem_cons.2 (.inl (by omega)))
        · exact .inl (by omega)
      · exact .inr (List.mem_cons_of_mem _ h3)
theorem minL_le {l : List Int} {b : Int} (h : b ∈ l) : minL l ≤ b := by
  rcases l with _ | ⟨a, l⟩
  · cases h
  · rcases List.mem_cons.1 h with rfl | h
    · exact (foldl_min l _).1
    · exact (foldl_min l _).2.1 b h
theorem minL_mem {l : List Int} (h : l ≠ []) : minL l ∈ l := by
  rcases l with _ | ⟨a, l⟩
  · exact absurd rfl h
  · rcases (foldl_min l a).2.2 with h | h
    · exact List.mem_cons.2 (.inl h)
    · exact List.mem_cons_of_mem _ h
theorem le_maxL {l : List Int} {b : Int} (h : b ∈ l) : b ≤ maxL l := by
  rcases l with _ | ⟨a, l⟩
  · cases h
  · rcases List.mem_cons.1 h with rfl | h
    · exact (foldl_max l _).1
    · exact (foldl_max l _).2.1 b h
theorem maxL_mem {l : List Int} (h : l ≠ []) : maxL l ∈ l := by
  rcases l with _ | ⟨a, l⟩
  · exact absurd rfl h
  · rcases (foldl_max l a).2.2 with h | h
    · exact List.mem_cons.2 (.inl h)
    · exact List.mem_cons_of_mem _ h
theorem minL_eq {l : List Int} {m : Int} (h1 : m ∈ l) (h2 : ∀ b ∈ l, m ≤ b) : minL l = m := by
  have := minL_le h1
  have := h2 _ (minL_mem (List.ne_nil_of_mem h1))
  omega
theorem maxL_eq {l : List Int} {m : Int} (h1 : m ∈ l) (h2 : ∀ b ∈ l, b ≤ m) : maxL l = m := by
  have := le_maxL h1
  have := h2 _ (maxL_mem (List.ne_nil_of_mem h1))
  omega
def corners (t : Tab) (xl xh yl yh : Int) : List (Int × Int) := (stops t.X xl xh).flatMap fun x => (stops t.Y yl yh).map fun y => (x, y)
theorem mem_corners {t : Tab} {xl xh yl yh : Int} {p : Int × Int} : p ∈ corners t xl xh yl yh ↔ p.1 ∈ stops t.X xl xh ∧ p.2 ∈ stops t.Y yl yh := by
  unfold corners
  rw [List.mem_flatMap]
  constructor
  · rintro ⟨x, hx, h⟩
    obtain ⟨y, hy, rfl⟩ := List.mem_map.1 h
    exact ⟨hx, hy⟩
  · rintro ⟨hx, hy⟩
    exact ⟨p.1, hx, List.mem_map.2 ⟨p.2, hy, rfl⟩⟩
theorem corners_ne (t : Tab) (xl xh yl yh : Int) : corners t xl xh yl yh ≠ [] := by
  intro h
  have : (xl, yl) ∈ corners t xl xh yl yh := mem_corners.2 ⟨List.mem_cons_self, List.mem_cons_self⟩
  rw [h] at this
  cases this
def boundLow (t : Tab) (xl xh yl yh : Int) : Int := minL ((corners t xl xh yl yh).map fun p => lowAt t p.1 p.2)
def boundHigh (t : Tab) (xl xh yl yh : Int) : Int := maxL ((corners t xl xh yl yh).map fun p => highAt t p.1 p.2)
structure On (t : Tab) (xl xh yl yh : Int) : Prop where
  x0 : ix t.X 0 ≤ xl
  x1 : xl ≤ xh
  x2 : xh ≤ lastOf t.X
  y0 : ix t.Y 0 ≤ yl
  y1 : yl ≤ yh
  y2 : yh ≤ lastOf t.Y
theorem bound_at {t : Tab} (hX : Axis t.X) (hY : Axis t.Y) {xl xh yl yh x y : Int} (h : On t xl xh yl yh) (hx1 : xl ≤ x) (hx2 : x ≤ xh) (hy1 : yl ≤ y) (hy2 : y ≤ yh) :
    boundLow t xl xh yl yh ≤ lowAt t x y ∧ highAt t x y ≤ boundHigh t xl xh yl yh := by
  obtain ⟨i, a, b, ha, hb, ca, cb, h1, h2⟩ := stop_pair hX h.x0 h.x2 hx1 hx2
  obtain ⟨k, c, d, hc, hd, cc, cd, h3, h4⟩ := stop_pair hY h.y0 h.y2 hy1 hy2
  have cy : InCell t.Y k y := ⟨cc.1, by have := cc.2.1; omega, by have := cd.2.2; omega⟩
  obtain ⟨e1, f1⟩ := between_x hX hY ca cb h1 h2 cy
  obtain ⟨e2, f2⟩ := between_y hX hY cc cd h3 h4 ca
  obtain ⟨e3, f3⟩ := between_y hX hY cc cd h3 h4 cb
  have g : ∀ {x y : Int}, x ∈ stops t.X xl xh → y ∈ stops t.Y yl yh → boundLow t xl xh yl yh ≤ lowAt t x y ∧ highAt t x y ≤ boundHigh t xl xh yl yh := by
    intro x y hx hy
    have hm : (x, y) ∈ corners t xl xh yl yh := mem_corners.2 ⟨hx, hy⟩
    exact ⟨minL_le (List.mem_map.2 ⟨_, hm, rfl⟩), le_maxL (List.mem_map.2 ⟨_, hm, rfl⟩)⟩
  have := g ha hc
  have := g ha hd
  have := g hb hc
  have := g hb hd
  omega
theorem boundLow_le_High {t : Tab} (hX : Axis t.X) (hY : Axis t.Y) {xl xh yl yh : Int} (h : On t xl xh yl yh) : boundLow t xl xh yl yh ≤ boundHigh t xl xh yl yh := by
  have := bound_at hX hY h (Int.le_refl _) h.x1 (Int.le_refl _) h.y1
  have hc := cellAt_in hX (x := xl) h.x0 (by have := h.x1; have := h.x2; omega)
  have hk := cellAt_in hY (x := yl) h.y0 (by have := h.y1; have := h.y2; omega)
  have := fl_le_ce (num t (cellAt t.X xl) (cellAt t.Y yl) xl yl) (den_pos hX hY hc.1 hk.1)
  unfold lowAt highAt at *
  omega
def Within (t : Tab) (lo hi : Int) : Prop := ∀ i k, i < t.X.length → k < t.Y.length → lo ≤ vat t i k ∧ vat t i k ≤ hi
theorem num_within {t : Tab} {lo hi : Int} (hv : Within t lo hi) {i k : Nat} {x y : Int} (hi' : InCell t.X i x) (hk : InCell t.Y k y) : lo * den t i k ≤ num t i k x y ∧ num t i k x y ≤ hi * den t i k := by
  obtain ⟨a1, a2, a3⟩ := hi'
  obtain ⟨b1, b2, b3⟩ := hk
  have v1 := hv i k (by omega) (by omega)
  have v2 := hv (i + 1) k (by omega) (by omega)
  have v3 := hv i (k + 1) (by omega) (by omega)
  have v4 := hv (i + 1) (k + 1) (by omega) (by omega)
  unfold num den
  generalize ix t.X (i + 1) = p at *
  generalize ix t.X i = q at *
  generalize ix t.Y (k + 1) = r at *
  generalize ix t.Y k = s at *
  have w1 : 0 ≤ (p - x) * (r - y) := Int.mul_nonneg (by omega) (by omega)
  have w2 : 0 ≤ (x - q) * (r - y) := Int.mul_nonneg (by omega) (by omega)
  have w3 : 0 ≤ (p - x) * (y - s) := Int.mul_nonneg (by omega) (by omega)
  have w4 : 0 ≤ (x - q) * (y - s) := Int.mul_nonneg (by omega) (by omega)
  have hs : (p - q) * (r - s) = (p - x) * (r - y) + (x - q) * (r - y) + (p - x) * (y - s) + (x - q) * (y - s) := by grind
  rw [hs]
  generalize (p - x) * (r - y) = W1 at *
  generalize (x - q) * (r - y) = W2 at *
  generalize (p - x) * (y - s) = W3 at *
  generalize (x - q) * (y - s) = W4 at *
  have l1 := Int.mul_le_mul_of_nonneg_left v1.1 w1
  have l2 := Int.mul_le_mul_of_nonneg_left v2.1 w2
  have l3 := Int.mul_le_mul_of_nonneg_left v3.1 w3
  have l4 := Int.mul_le_mul_of_nonneg_left v4.1 w4
  have u1 := Int.mul_le_mul_of_nonneg_left v1.2 w1
  have u2 := Int.mul_le_mul_of_nonneg_left v2.2 w2
  have u3 := Int.mul_le_mul_of_nonneg_left v3.2 w3
  have u4 := Int.mul_le_mul_of_nonneg_left v4.2 w4
  constructor <;> grind
theorem at_within {t : Tab} (hX : Axis t.X) (hY : Axis t.Y) {lo hi : Int} (hv : Within t lo hi) {x y : Int} (h0 : ix t.X 0 ≤ x) (h1 : x ≤ lastOf t.X) (h2 : ix t.Y 0 ≤ y) (h3 : y ≤ lastOf t.Y) : lo ≤ lowAt t x y ∧ highAt t x y ≤ hi ∧ lowAt t x y ≤ highAt t x y := by
  have hc := cellAt_in hX h0 h1
  have hk := cellAt_in hY h2 h3
  obtain ⟨n1, n2⟩ := num_within hv hc hk
  have hd := den_pos hX hY hc.1 hk.1
  unfold lowAt highAt
  generalize num t (cellAt t.X x) (cellAt t.Y y) x y = n at *
  generalize den t (cellAt t.X x) (cellAt t.Y y) = d at *
  refine ⟨(Int.le_ediv_iff_mul_le hd).2 n1, ?_, fl_le_ce _ hd⟩
  unfold ce
  have := (Int.le_ediv_iff_mul_le (a := -hi) (b := -n) hd).2 (by rw [Int.neg_mul]; omega)
  omega
theorem bound_within {t : Tab} (hX : Axis t.X) (hY : Axis t.Y) {lo hi : Int} (hv : Within t lo hi) {xl xh yl yh : Int} (h : On t xl xh yl yh) :
    lo ≤ boundLow t xl xh yl yh ∧ boundHigh t xl xh yl yh ≤ hi ∧ boundLow t xl xh yl yh ≤ boundHigh t xl xh yl yh := by
  have key : ∀ p ∈ corners t xl xh yl yh, lo ≤ lowAt t p.1 p.2 ∧ highAt t p.1 p.2 ≤ hi := by
    intro p hp
    obtain ⟨h1, h2⟩ := mem_corners.1 hp
    obtain ⟨a1, a2, _⟩ := (mem_stops h.x1).1 h1
    obtain ⟨b1, b2, _⟩ := (mem_stops h.y1).1 h2
    have := at_within hX hY hv (x := p.1) (y := p.2) (by have := h.x0; omega) (by have := h.x2; omega) (by have := h.y0; omega) (by have := h.y2; omega)
    exact ⟨this.1, this.2.1⟩
  have ne : corners t xl xh yl yh ≠ [] := corners_ne _ _ _ _ _
  refine ⟨?_, ?_, boundLow_le_High hX hY h⟩
  · obtain ⟨p, hp, e⟩ := List.mem_map.1 (minL_mem (l := (corners t xl xh yl yh).map fun p => lowAt t p.1 p.2) (by simpa using ne))
    have := (key p hp).1
    unfold boundLow
    omega
  · obtain ⟨p, hp, e⟩ := List.mem_map.1 (maxL_mem (l := (corners t xl xh yl yh).map fun p => highAt t p.1 p.2) (by simpa using ne))
    have := (key p hp).2
    unfold boundHigh
    omega
end Go.Proofs.YtdnodlgebpnfoaaGreat.Sw
namespace Go.Proofs.YtdnodlgebpnfoaaGreat.Sw
structure Span where
  lo : Int
  hi : Int
  deriving DecidableEq
def Span.ok (a : Span) : Bool := within a.lo (-1000000) a.hi && decide (a.hi ≤ 1000000)
theorem Span.ok_iff (a : Span) : a.ok = true ↔ -1000000 ≤ a.lo ∧ a.lo ≤ a.hi ∧ a.hi ≤ 1000000 := by
  simp [Span.ok, within, and_assoc]
structure Air where
  weight : Span
  temp : Span
  height : Span
  wind : Span
structure Rot where
  hover : Tab
  ground : Tab
  level : Tab
  power : Tab
  never : Tab
  low : Tab
  high : Tab
  glide : Tab
  climb : Int
  burn : Int
def inAll (t : Tab) (lo hi : Int) : Bool := t.V.all fun row => row.all fun n => within n lo hi
def filled (t : Tab) (lo hi : Int) : Bool := tabOk t && inAll t lo hi
def notAbove (s t : Tab) : Bool := (List.range s.X.length).all fun i => (List.range s.Y.length).all fun k => decide (vat s i k ≤ vat t i k)
def rotOk (r : Rot) : Bool :=
  filled r.hover 0 100000 && filled r.ground 0 100 && filled r.level 0 100000 && filled r.power 0 100000 && filled r.never 0 10000 && filled r.low 0 10000 && filled r.high 0 10000 && filled r.glide 1 10000 &&
    (decide (r.low.X = r.high.X) && decide (r.low.Y = r.high.Y) && within r.climb 1 1000 && within r.burn 1 1000 && notAbove r.low r.high)
def airOk (a : Air) : Bool := a.weight.ok && a.temp.ok && a.height.ok && a.wind.ok
def checkRot (r : Rot) : Int := if rotOk r then 0 else 20
def liesT (t : Tab) (x y : Span) : Bool := lies t.X x.lo x.hi && lies t.Y y.lo y.hi
def bnd (t : Tab) (x y : Span) : Span := ⟨boundLow t x.lo x.hi y.lo y.hi, boundHigh t x.lo x.hi y.lo y.hi⟩
theorem tab_axes {t : Tab} (h : tabOk t = true) : Axis t.X ∧ Axis t.Y ∧ t.V.length = t.X.length ∧ ∀ row ∈ t.V, row.length = t.Y.length ∧ ∀ n ∈ row, -1000000 ≤ n ∧ n ≤ 1000000 := by
  unfold tabOk at h
  simp only [Bool.and_eq_true, decide_eq_true_eq, List.all_eq_true, within] at h
  obtain ⟨⟨⟨h1, h2⟩, h3⟩, h4⟩ := h
  exact ⟨(axis_iff _).1 h1, (axis_iff _).1 h2, h3, fun row hr => ⟨(h4 row hr).1, fun n hn => (h4 row hr).2 n hn⟩⟩
theorem vat_mem {t : Tab} (h : tabOk t = true) {i k : Nat} (hi : i < t.X.length) (hk : k < t.Y.length) : ∃ row ∈ t.V, vat t i k ∈ row := by
  obtain ⟨_, _, h3, h4⟩ := tab_axes h
  have hi' : i < t.V.length := by omega
  refine ⟨t.V[i], List.getElem_mem hi', ?_⟩
  have hk' : k < t.V[i].length := by rw [(h4 _ (List.getElem_mem hi')).1]; exact hk
  have : vat t i k = t.V[i][k] := by simp [vat, ix, rowOf, List.getD_eq_getElem?_getD, hi', hk']
  rw [this]
  exact List.getElem_mem hk'
theorem tab_within {t : Tab} (h : tabOk t = true) : Within t (-1000000) 1000000 := by
  intro i k hi hk
  obtain ⟨row, hr, hm⟩ := vat_mem h hi hk
  exact ((tab_axes h).2.2.2 row hr).2 _ hm
theorem filled_within {t : Tab} {lo hi : Int} (h : filled t lo hi = true) : tabOk t = true ∧ Within t lo hi := by
  unfold filled at h
  simp only [Bool.and_eq_true] at h
  refine ⟨h.1, fun i k hi hk => ?_⟩
  obtain ⟨row, hr, hm⟩ := vat_mem h.1 hi hk
  have h2 := h.2
  simp only [inAll, List.all_eq_true, within, Bool.and_eq_true, decide_eq_true_eq] at h2
  exact h2 row hr _ hm
theorem on_of {t : Tab} {x y : Span} (hx : x.ok = true) (hy : y.ok = true) (h : liesT t x y = true) : On t x.lo x.hi y.lo y.hi := by
  simp only [liesT, lies, Bool.and_eq_true, decide_eq_true_eq] at h
  have h1 := (Span.ok_iff x).1 hx
  have h2 := (Span.ok_iff y).1 hy
  exact ⟨h.1.1, h1.2.1, h.1.2, h.2.1, h2.2.1, h.2.2⟩
end Go.Proofs.YtdnodlgebpnfoaaGreat.Sw
namespace Go.Proofs.YtdnodlgebpnfoaaGreat
open Go Go.RowKit Go.Shelf Sw
structure Kd (α : Type) where
  sz : Nat
  by_ : Nat
  pos : 0 < by_
  R : (Nat → Prop) → World → α → List Value → Prop
  len : ∀ {F : Nat → Prop} {W : World} {x : α} {cs : List Value}, R F W x cs → cs.length = sz
  move : ∀ {F : Nat → Prop} {W W' : World} {x : α} {cs : List Value}, (∀ k, F k → k < W.heap.size → W'.heap[k]? = W.heap[k]?) → R F W x cs → R F W' x cs
  wide : ∀ {F F' : Nat → Prop} {W : World} {x : α} {cs : List Value}, (∀ k, F k → k < W.heap.size → F' k) → R F W x cs → R F' W x cs
structure SV where
  a : Option Addr
  c : Nat
def Sl {α : Type} (d : Kd α) (F : Nat → Prop) (W : World) (s : SV) (xs : List α) : Prop :=
  xs.length ≤ s.c ∧ xs.length * d.by_ ≤ 140737488355328 ∧ ∀ j (h : j < xs.length), ∃ ad cs, s.a = some ad ∧ F ad.block ∧ d.R F W xs[j] cs ∧ ∀ i u, cs[i]? = some u → W.cell? (ad.add (j * d.sz + i)) = some u
theorem cell_lt {W : World} {p : Addr} {u : Value} (h : W.cell? p = some u) : p.block < W.heap.size := World.block_lt_of_cell? W p h
theorem add_block (p : Addr) (k : Nat) : (p.add k).block = p.block := by unfold Addr.add; split <;> rfl
theorem add_add (p : Addr) (i j : Nat) : (p.add i).add j = p.add (i + j) := by
  unfold Addr.add
  by_cases hi : i = 0
  · subst hi; simp
  · by_cases hj : j = 0
    · subst hj; simp [hi]
    · have h : ¬ i + j = 0 := by omega
      simp only [hi, hj, h, if_false]
      rw [Nat.add_assoc]
theorem cell_same {W W' : World} {p : Addr} {u : Value} (h : W.cell? p = some u) (hk : W'.heap[p.block]? = W.heap[p.block]?) : W'.cell? p = some u := by
  unfold World.cell? at *; rw [hk]; exact h
theorem Sl.move {α : Type} {d : Kd α} {F : Nat → Prop} {W W' : World} {s : SV} {xs : List α} (h : Sl d F W s xs) (hm : ∀ k, F k → k < W.heap.size → W'.heap[k]? = W.heap[k]?) : Sl d F W' s xs := by
  refine ⟨h.1, h.2.1, fun j hj => ?_⟩
  obtain ⟨ad, cs, h1, h2, h3, h4⟩ := h.2.2 j hj
  refine ⟨ad, cs, h1, h2, d.move hm h3, fun i u hu => ?_⟩
  have hc := h4 i u hu
  have hlt := cell_lt hc
  rw [add_block] at hlt
  exact cell_same hc (by rw [add_block]; exact hm _ h2 hlt)
theorem Sl.wide {α : Type} {d : Kd α} {F F' : Nat → Prop} {W : World} {s : SV} {xs : List α} (h : Sl d F W s xs) (hm : ∀ k, F k → k < W.heap.size → F' k) (h0 : ∀ (j : Nat), j < xs.length → 0 < d.sz) : Sl d F' W s xs := by
  refine ⟨h.1, h.2.1, fun j hj => ?_⟩
  obtain ⟨ad, cs, h1, h2, h3, h4⟩ := h.2.2 j hj
  have hl := d.len h3
  have hp := h0 j hj
  have hc := h4 0 (cs[0]'(by omega)) (by simp)
  have hlt := cell_lt hc
  rw [add_block] at hlt
  exact ⟨ad, cs, h1, hm _ h2 hlt, d.wide hm h3, h4⟩
theorem keep_of {w W : World} {F : Nat → Prop} (h : Below w.heap.size w W) : ∀ k, F k → k < w.heap.size → W.heap[k]? = w.heap[k]? := fun k _ hk => h.block k hk
def kOf {α : Type} (enc : α → List Value) (n b : Nat) (hb : 0 < b) (h : ∀ x, (enc x).length = n) : Kd α where
  sz := n
  by_ := b
  pos := hb
  R := fun _ _ x cs => cs = enc x
  len := fun h' => by rw [h']; exact h _
  move := fun _ h => h
  wide := fun _ h => h
abbrev kInt : Kd Int := kOf (fun x => [.int .i64 x]) 1 8 (by decide) (fun _ => rfl)
abbrev kBool : Kd Bool := kOf (fun x => [.bool x]) 1 1 (by decide) (fun _ => rfl)
abbrev spanC (a : Span) : List Value := [.int .i64 a.lo, .int .i64 a.hi]
abbrev kSpan : Kd Span := kOf spanC 2 16 (by decide) (fun _ => rfl)
def kSl {α : Type} (d : Kd α) (h0 : 0 < d.sz) : Kd (List α) where
  sz := 1
  by_ := 24
  pos := by decide
  R := fun F W xs cs => ∃ s : SV, cs = [.slice s.a xs.length s.c] ∧ Sl d F W s xs
  len := by rintro F W x cs ⟨s, rfl, _⟩; rfl
  move := by rintro F W W' x cs hm ⟨s, rfl, h⟩; exact ⟨s, rfl, h.move hm⟩
  wide := by rintro F F' W x cs hm ⟨s, rfl, h⟩; exact ⟨s, rfl, h.wide hm (fun _ _ => h0)⟩
abbrev kRow : Kd (List Int) := kSl kInt (by decide)
theorem Sl.len {α : Type} {d : Kd α} {F : Nat → Prop} {W : World} {s : SV} {xs : List α} (h : Sl d F W s xs) : xs.length ≤ 140737488355328 := by
  have h1 := h.2.1
  have := Nat.le_mul_of_pos_right xs.length d.pos
  omega
theorem Sl.int {F : Nat → Prop} {W : World} {s : SV} {xs : List Int} (h : Sl kInt F W s xs) {j : Nat} (hj : j < xs.length) : ∃ ad, s.a = some ad ∧ W.cell? (ad.add (j * 1)) = some (.int .i64 (ix xs j)) := by
  obtain ⟨ad, cs, h1, _, h3, h4⟩ := h.2.2 j hj
  have h3' : cs = [.int .i64 xs[j]] := h3
  subst h3'
  refine ⟨ad, h1, ?_⟩
  have := h4 0 _ rfl
  rw [show ix xs j = xs[j] by simp [ix, List.getD_eq_getElem?_getD, hj]]
  exact this
theorem Sl.row {F : Nat → Prop} {W : World} {s : SV} {xs : List (List Int)} (h : Sl kRow F W s xs) {j : Nat} (hj : j < xs.length) : ∃ ad s', s.a = some ad ∧ W.cell? (ad.add (j * 1)) = some (.slice s'.a (rowOf xs j).length s'.c) ∧ Sl kInt F W s' (rowOf xs j) := by
  obtain ⟨ad, cs, h1, _, ⟨s', h3, h5⟩, h4⟩ := h.2.2 j hj
  subst h3
  have := h4 0 _ rfl
  have e : rowOf xs j = xs[j] := by simp [rowOf, List.getD_eq_getElem?_getD, hj]
  rw [e]
  exact ⟨ad, s', h1, this, h5⟩
theorem Sl.at_ {α : Type} {d : Kd α} {F : Nat → Prop} {w W : World} {s : SV} {xs : List α} (h : Sl d F w s xs) (hb : Below w.heap.size w W) : Sl d F W s xs := h.move (keep_of hb)
theorem Sl.span {F : Nat → Prop} {W : World} {s : SV} {xs : List Span} (h : Sl kSpan F W s xs) {j : Nat} (hj : j < xs.length) : ∃ ad, s.a = some ad ∧ ∀ i u, (spanC (xs[j]'hj))[i]? = some u → W.cell? ((ad.add (j * 2)).add i) = some u := by
  obtain ⟨ad, cs, h1, _, h3, h4⟩ := h.2.2 j hj
  have h3' : cs = spanC xs[j] := h3
  subst h3'
  refine ⟨ad, h1, fun i u hu => ?_⟩
  have := h4 i u hu
  rw [add_add]; exact this
structure TV where
  x : SV
  y : SV
  v : SV
def TabR (F : Nat → Prop) (W : World) (V : TV) (t : Tab) : Prop := Sl kInt F W V.x t.X ∧ Sl kInt F W V.y t.Y ∧ Sl kRow F W V.v t.V
abbrev tabC (V : TV) (t : Tab) : List Value := [.slice V.x.a t.X.length V.x.c, .slice V.y.a t.Y.length V.y.c, .slice V.v.a t.V.length V.v.c]
theorem TabR.move {F : Nat → Prop} {W W' : World} {V : TV} {t : Tab} (h : TabR F W V t) (hm : ∀ k, F k → k < W.heap.size → W'.heap[k]? = W.heap[k]?) : TabR F W' V t := ⟨h.1.move hm, h.2.1.move hm, h.2.2.move hm⟩
structure RV where
  hover : TV
  ground : TV
  level : TV
  power : TV
  never : TV
  low : TV
  high : TV
  glide : TV
structure RotR (F : Nat → Prop) (W : World) (V : RV) (r : Rot) : Prop where
  hover : TabR F W V.hover r.hover
  ground : TabR F W V.ground r.ground
  level : TabR F W V.level r.level
  power : TabR F W V.power r.power
  never : TabR F W V.never r.never
  low : TabR F W V.low r.low
  high : TabR F W V.high r.high
  glide : TabR F W V.glide r.glide
theorem RotR.move {F : Nat → Prop} {W W' : World} {V : RV} {r : Rot} (h : RotR F W V r) (hm : ∀ k, F k → k < W.heap.size → W'.heap[k]? = W.heap[k]?) : RotR F W' V r :=
  ⟨h.hover.move hm, h.ground.move hm, h.level.move hm, h.power.move hm, h.never.move hm, h.low.move hm, h.high.move hm, h.glide.move hm⟩
abbrev rotC (V : RV) (r : Rot) : List Value :=
  [.slice V.hover.x.a r.hover.X.length V.hover.x.c, .slice V.hover.y.a r.hover.Y.length V.hover.y.c, .slice V.hover.v.a r.hover.V.length V.hover.v.c,
   .slice V.ground.x.a r.ground.X.length V.ground.x.c, .slice V.ground.y.a r.ground.Y.length V.ground.y.c, .slice V.ground.v.a r.ground.V.length V.ground.v.c,
   .slice V.level.x.a r.level.X.length V.level.x.c, .slice V.level.y.a r.level.Y.length V.level.y.c, .slice V.level.v.a r.level.V.length V.level.v.c,
   .slice V.power.x.a r.power.X.length V.power.x.c, .slice V.power.y.a r.power.Y.length V.power.y.c, .slice V.power.v.a r.power.V.length V.power.v.c,
   .slice V.never.x.a r.never.X.length V.never.x.c, .slice V.never.y.a r.never.Y.length V.never.y.c, .slice V.never.v.a r.never.V.length V.never.v.c,
   .slice V.low.x.a r.low.X.length V.low.x.c, .slice V.low.y.a r.low.Y.length V.low.y.c, .slice V.low.v.a r.low.V.length V.low.v.c,
   .slice V.high.x.a r.high.X.length V.high.x.c, .slice V.high.y.a r.high.Y.length V.high.y.c, .slice V.high.v.a r.high.V.length V.high.v.c,
   .slice V.glide.x.a r.glide.X.length V.glide.x.c, .slice V.glide.y.a r.glide.Y.length V.glide.y.c, .slice V.glide.v.a r.glide.V.length V.glide.v.c,
   .int .i64 r.climb, .int .i64 r.burn]
abbrev airC (a : Air) : List Value := [.int .i64 a.weight.lo, .int .i64 a.weight.hi, .int .i64 a.temp.lo, .int .i64 a.temp.hi, .int .i64 a.height.lo, .int .i64 a.height.hi, .int .i64 a.wind.lo, .int .i64 a.wind.hi]
theorem w64 {x : Int} (h0 : -9223372036854775808 ≤ x) (h1 : x ≤ 9223372036854775807) : IntKind.i64.wrap x = x := by
  rw [IntKind.wrap_i64]
  omega
theorem vb {x y : Bool} (h : x = true ↔ y = true) : Value.bool x = .bool y := by rw [Bool.eq_iff_iff.2 h]
section
variable {P : Program} {ds : List Nat} {w W0 W : World} {n d : Nat} {a : Act} {κ : KV} {l : List Blk} {Φ : World → Prop} {x y : Operand} {ty T T2 : TypeId} {pos : String} {af : Array Edge} {g : Option (Nat × Bool)} {C : World → Prop} {F : Nat → Prop} {s : SV}
theorem run_add {p q t : Int} (hS : St ds w W n a κ l Φ) (hx : ev κ x = some (.int .i64 p)) (hy : ev κ y = some (.int .i64 q)) (e : p + q = t) (h0 : -9223372036854775808 ≤ t) (h1 : t ≤ 9223372036854775807) : (execOp a.eval ⟨some d, .binOp .add T x y T2, ty, pos, af, g⟩).run P W = .ok (.value (.int .i64 t)) W := by
  have := run_bin (P := P) (d := d) (T := T) (T2 := T2) (ty := ty) (pos := pos) (af := af) (g := g) (op := .add) hS hx hy rfl
  rwa [w64 (by omega) (by omega), e] at this
theorem run_sub {p q t : Int} (hS : St ds w W n a κ l Φ) (hx : ev κ x = some (.int .i64 p)) (hy : ev κ y = some (.int .i64 q)) (e : p - q = t) (h0 : -9223372036854775808 ≤ t) (h1 : t ≤ 9223372036854775807) : (execOp a.eval ⟨some d, .binOp .sub T x y T2, ty, pos, af, g⟩).run P W = .ok (.value (.int .i64 t)) W := by
  have := run_bin (P := P) (d := d) (T := T) (T2 := T2) (ty := ty) (pos := pos) (af := af) (g := g) (op := .sub) hS hx hy rfl
  rwa [w64 (by omega) (by omega), e] at this
theorem run_mul {p q t : Int} (hS : St ds w W n a κ l Φ) (hx : ev κ x = some (.int .i64 p)) (hy : ev κ y = some (.int .i64 q)) (e : p * q = t) (h : -9223372036854775808 ≤ t ∧ t ≤ 9223372036854775807) : (execOp a.eval ⟨some d, .binOp .mul T x y T2, ty, pos, af, g⟩).run P W = .ok (.value (.int .i64 t)) W := by
  have := run_bin (P := P) (d := d) (T := T) (T2 := T2) (ty := ty) (pos := pos) (af := af) (g := g) (op := .mul) hS hx hy rfl
  rwa [w64 (by rw [e]; exact h.1) (by rw [e]; exact h.2), e] at this
theorem run_div {p q t : Int} (hS : St ds w W n a κ l Φ) (hx : ev κ x = some (.int .i64 p)) (hy : ev κ y = some (.int .i64 q)) (hq : q ≠ 0) (e : p.tdiv q = t) (h : -9223372036854775808 ≤ t ∧ t ≤ 9223372036854775807) : (execOp a.eval ⟨some d, .binOp .quo T x y T2, ty, pos, af, g⟩).run P W = .ok (.value (.int .i64 t)) W := by
  have := run_quo (P := P) (d := d) (T := T) (T2 := T2) (ty := ty) (pos := pos) (af := af) (g := g) hS hx hy hq
  rwa [w64 (by rw [e]; exact h.1) (by rw [e]; exact h.2), e] at this
theorem run_rem' {p q t : Int} (hS : St ds w W n a κ l Φ) (hx : ev κ x = some (.int .i64 p)) (hy : ev κ y = some (.int .i64 q)) (hq : q ≠ 0) (e : p.tmod q = t) : (execOp a.eval ⟨some d, .binOp .rem T x y T2, ty, pos, af, g⟩).run P W = .ok (.value (.int .i64 t)) W := by
  have := run_rem (P := P) (d := d) (T := T) (T2 := T2) (ty := ty) (pos := pos) (af := af) (g := g) hS hx hy hq
  rwa [e] at this
theorem run_negI {p t : Int} (hS : St ds w W n a κ l Φ) (hx : ev κ x = some (.int .i64 p)) (e : 0 - p = t) (h0 : -9223372036854775808 ≤ t) (h1 : t ≤ 9223372036854775807) : (execOp a.eval ⟨some d, .unOp .neg T x, ty, pos, af, g⟩).run P W = .ok (.value (.int .i64 t)) W := by
  have := run_neg (P := P) (d := d) (T := T) (ty := ty) (pos := pos) (af := af) (g := g) hS hx
  rwa [w64 (by omega) (by omega), e] at this
theorem sl_int {xs : List Int} (H : ∀ W, C W → Sl kInt F W s xs) (h0 : C W0) {i : Int} {j : Nat} (e : i = (j : Int)) (hj : j < xs.length) : ∃ ad, s.a = some ad ∧ ∀ W, C W → W.cell? (ad.add (i.toNat * 1)) = some (.int .i64 (ix xs j)) := by
  subst e
  obtain ⟨ad, h1, h2⟩ := (H W0 h0).int hj
  refine ⟨ad, h1, fun W hC => ?_⟩
  obtain ⟨ad', h3, h4⟩ := (H W hC).int hj
  rw [h1] at h3; cases h3
  rw [Int.toNat_natCast]; exact h4
theorem sl_rowB {xs : List (List Int)} (H : Sl kRow F w s xs) {i : Int} {j : Nat} (e : i = (j : Int)) (hj : j < xs.length) : ∃ (ad : Addr) (s' : SV), s.a = some ad ∧ (∀ W, Below w.heap.size w W → W.cell? (ad.add (i.toNat * 1)) = some (.slice s'.a (rowOf xs j).length s'.c)) ∧ ∀ W, Below w.heap.size w W → Sl kInt F W s' (rowOf xs j) := by
  subst e
  obtain ⟨ad, s', h2, h3, h4⟩ := H.row hj
  exact ⟨ad, s', h2, fun W hb => by rw [Int.toNat_natCast]; exact cell_same h3 (hb.block _ (cell_lt h3)), fun W hb => h4.at_ hb⟩
theorem St.moreSl {α : Type} {dk : Kd α} {m0 : Nat} {xs : List α} (hS : St ds w W n a κ l Φ) (hlt : ∀ B ∈ l, B.b < m0) (h : Sl dk (fun k => m0 ≤ k) W s xs) : St ds w W n a κ l (fun W => Φ W ∧ Sl dk (fun k => m0 ≤ k) W s xs) :=
  hS.more fun W' ho _ => h.move fun k hk hlt' => ho.same k hlt' fun B hB e => by have := hlt B hB; omega
def spanAt (xs : List Span) (j : Nat) : Span := xs.getD j ⟨0, 0⟩
theorem sl_span {xs : List Span} (H : ∀ W, C W → Sl kSpan F W s xs) (h0 : C W0) {i : Int} {j : Nat} (e : i = (j : Int)) (hj : j < xs.length) : ∃ ad, s.a = some ad ∧ ∀ W, C W → ∀ k u, (spanC (spanAt xs j))[k]? = some u → W.cell? ((ad.add (i.toNat * 2)).add k) = some u := by
  subst e
  obtain ⟨ad, h1, _⟩ := (H W0 h0).span hj
  refine ⟨ad, h1, fun W hC k u hu => ?_⟩
  obtain ⟨ad', h3, h4⟩ := (H W hC).span hj
  rw [h1] at h3; cases h3
  rw [Int.toNat_natCast]
  refine h4 k u ?_
  rwa [show spanAt xs j = xs[j] by simp [spanAt, List.getD_eq_getElem?_getD, hj]] at hu
def RSl {α : Type} (dk : Kd α) (m0 : Nat) (xs : List α) (v : Value) (W : World) : Prop := ∃ s : SV, v = .slice s.a xs.length s.c ∧ Sl dk (fun k => m0 ≤ k) W s xs
theorem RSl.stable {α : Type} {dk : Kd α} {m0 : Nat} {xs : List α} (u : Value) (W W' : World) (h : RSl dk m0 xs u W) (hl : Later W W') : RSl dk m0 xs u W' := by
  obtain ⟨s, e, h⟩ := h
  exact ⟨s, e, h.move fun k _ hk => hl.block k hk⟩
theorem RSl.of {α : Type} {dk : Kd α} {xs : List α} {f : FuncId} {vs : List Value} {W0 W : World} (hB : Later W0 W) (h0 : 0 < dk.sz) (h : Ret P f vs W (fun v W' => ∃ s : SV, v = .slice s.a xs.length s.c ∧ Sl dk (fun k => W.heap.size ≤ k) W' s xs)) : Ret P f vs W (RSl dk W0.heap.size xs) :=
  h.mono fun v W' _ ⟨s, e, hs⟩ => ⟨s, e, hs.wide (fun k hk _ => Nat.le_trans hB.size hk) (fun _ _ => h0)⟩
end
end Go.Proofs.YtdnodlgebpnfoaaGreat
namespace Go.Proofs.YtdnodlgebpnfoaaGreat
open Go Go.RowKit Go.Shelf Sw
def AI (P : Program) (E : TypeId) (sz by_ : Nat) : Prop := ∃ i z, P.info? E = some i ∧ i.zero = some z ∧ i.size = sz ∧ i.bytes = by_ ∧ z.cells.size = sz ∧ 0 < by_
def AIb (P : Program) (E : TypeId) (sz by_ : Nat) : Bool := match P.info? E with
  | some i => (match i.zero with | some z => Nat.beq z.cells.size sz | none => false) && Nat.beq i.size sz && Nat.beq i.bytes by_ && Nat.blt 0 by_
  | none => false
theorem AI.of {P : Program} {E : TypeId} {sz by_ : Nat} (h : AIb P E sz by_ = true) : AI P E sz by_ := by
  unfold AIb at h
  cases h1 : P.info? E with
  | none => rw [h1] at h; cases h
  | some i =>
    rw [h1] at h
    cases h2 : i.zero with
    | none => simp [h2] at h
    | some z =>
      simp only [h2, Bool.and_eq_true] at h
      exact ⟨i, z, h1, h2, Nat.eq_of_beq_eq_true h.1.1.2, Nat.eq_of_beq_eq_true h.1.2, Nat.eq_of_beq_eq_true h.1.1.1, Nat.blt_eq.mp h.2⟩
def OwnR (v : Value) (n sz : Nat) (xs cs : List Value) : Prop :=
  xs.length = n * sz ∧ ((v = .slice none 0 0 ∧ n = 0 ∧ cs = []) ∨ ∃ b cap, v = .slice (some ⟨b, 0, none⟩) n cap ∧ n ≤ cap ∧ cap ≤ maxLen ∧ cs.length = cap * sz ∧ cs.take (n * sz) = xs)
def rowB (v : Value) (cs : List Value) (T : TypeId) : List Blk := match v.ownBlock with | some b => [⟨b, cs, T⟩] | none => []
theorem rowB_some (b n c : Nat) (cs : List Value) (T : TypeId) : rowB (.slice (some ⟨b, 0, none⟩) n c) cs T = [⟨b, cs, T⟩] := rfl
theorem OwnR.nil (sz : Nat) : OwnR (.slice none 0 0) 0 sz [] [] := ⟨by simp, .inl ⟨rfl, rfl, rfl⟩⟩
theorem OwnR.made (b k sz : Nat) (cs : List Value) (h : cs.length = k * sz) (hk : k ≤ maxLen) : OwnR (.slice (some ⟨b, 0, none⟩) k k) k sz cs cs :=
  ⟨h, .inr ⟨b, k, rfl, Nat.le_refl _, hk, h, by rw [← h]; exact List.take_length⟩⟩
section
variable {P : Program} {r : Option Nat} {m : Nat} {ops : Array Oper} {Q : Exit → Act → World → Prop} {rest : List Oper} {o : Oper}
  {ds : List Nat} {w W W' : World} {n d : Nat} {a : Act} {κ : KV} {l l1 l2 : List Blk} {Φ : World → Prop} {x y c : Operand} {v u : Value} {ty T T2 E : TypeId} {pos : String} {af : Array Edge} {g : Option (Nat × Bool)}
theorem Off.mono {l l' : List Blk} {W W' : World} (h : Off l W W') (hs : ∀ b ∈ l, b ∈ l') : Off l' W W' := ⟨h.os, h.tape, h.output, fun k hk hn => h.same k hk fun b hb => hn b (hs b hb)⟩
theorem St.newRow {v : Value} {cs cs' : List Value} (hS : St ds w W n a κ (l ++ rowB v cs T) Φ) (N : Nat) (cap : Nat) : St ds w (W.drew.alloc (.cells cs'.toArray T)) n a κ (l ++ rowB (.slice (some ⟨W.heap.size, 0, none⟩) N cap) cs' T) Φ := by
  have hg : St ds w W.drew n a κ (l ++ rowB v cs T) Φ := hS.grow ⟨rfl, rfl, rfl, Nat.le_refl _, fun _ _ => rfl⟩
  have h1 := (hg.alloc cs' T).drop (l' := ⟨W.heap.size, cs', T⟩ :: l) (List.Sublist.cons_cons _ (List.sublist_append_left _ _))
  refine ⟨h1.size, h1.defers, h1.get, h1.below, ?_, ?_, ?_, ?_⟩
  · intro b hb
    refine h1.blk b ?_
    rcases List.mem_append.1 hb with hb | hb
    · exact List.mem_cons_of_mem _ hb
    · rw [rowB_some] at hb; exact List.mem_cons.2 (.inl (List.mem_singleton.1 hb))
  · intro b hb
    refine h1.old b ?_
    rcases List.mem_append.1 hb with hb | hb
    · exact List.mem_cons_of_mem _ hb
    · rw [rowB_some] at hb; exact List.mem_cons.2 (.inl (List.mem_singleton.1 hb))
  · rw [rowB_some]
    have hp := List.pairwise_cons.1 h1.dist
    refine List.pairwise_append.2 ⟨hp.2, List.pairwise_singleton _ _, fun x hx y hy => ?_⟩
    rw [List.mem_singleton.1 hy]
    exact fun e => hp.1 x hx e.symm
  · intro W2 ho hz
    refine h1.fact W2 ⟨ho.os, ho.tape, ho.output, fun k hk hn => ho.same k hk fun b hb => ?_⟩ hz
    rcases List.mem_append.1 hb with hb | hb
    · exact hn b (List.mem_cons_of_mem _ hb)
    · rw [rowB_some] at hb; exact hn b (List.mem_cons.2 (.inl (List.mem_singleton.1 hb)))
theorem runs_append {sz by_ : Nat} {tx : TypeId} {v : Value} {N k : Nat} {xs cs news : List Value} {y : Value} (hT : P.underlying T = some (.slice E)) (hi : AI P E sz by_) (hsz : 0 < sz) (hS : St ds w W n a κ (l ++ rowB v cs E) Φ) (hO : OwnR v N sz xs cs)
    (hs : Src P sz tx y k news W) (hlen : (N + k) * by_ ≤ 140737488355328) :
    ∃ v' cs' W', (Builtin.append_ #[T, tx] ty #[v, y]).run P W = .ok v' W' ∧ OwnR v' (N + k) sz (xs ++ news) cs' ∧ St ds w W' n a κ (l ++ rowB v' cs' E) Φ := by
  obtain ⟨i, z, h1, h2, h3, h4, h5, h6⟩ := hi
  subst h3
  subst h4
  have hNk : N + k ≤ 140737488355328 := Nat.le_trans (Nat.le_mul_of_pos_right _ h6) hlen
  have hxl := hO.1
  have hnl := hs.newsLen
  have hml : N + k ≤ maxLen := by simp only [maxLen]; omega
  have grow : ∀ (base : Option Addr) (old : Nat) (hv : v = .slice base N old), old < N + k → (Builtin.firstCells i.size N (.slice base N old)).run P W.drew = .ok xs.toArray W.drew →
      ∃ v' cs' W', (Builtin.append_ #[T, tx] ty #[v, y]).run P W = .ok v' W' ∧ OwnR v' (N + k) i.size (xs ++ news) cs' ∧ St ds w W' n a κ (l ++ rowB v' cs' E) Φ := by
    intro base old hv hold hfc
    have hfit : Builtin.nextslicecap (N + k) old * i.bytes ≤ 281474976710656 := growslice_fits hold hlen
    have hr := run_append_grow_src (P := P) W T tx ty E i z hT h1 h2 base N old xs hfc y k news hs hold (by omega) hfit
    have hge := grownCap_ge W (N + k) old E
    have hcm : grownCap W (N + k) old E ≤ maxLen := grownCap_le_maxLen W (N + k) old E hml
    have e : (xs ++ news).toArray ++ Builtin.zeroCells z.cells (grownCap W (N + k) old E - (N + k)) = ((xs ++ news) ++ (Builtin.zeroCells z.cells (grownCap W (N + k) old E - (N + k))).toList).toArray := by simp
    rw [hv, hr, e]
    refine ⟨_, _, _, rfl, ⟨by rw [List.length_append, hxl, hnl, Nat.add_mul], .inr ⟨_, _, rfl, hge, hcm, ?_, ?_⟩⟩, hS.newRow _ _⟩
    · rw [List.length_append, List.length_append, hxl, hnl, Array.length_toList, size_zeroCells, h5, ← Nat.add_mul, ← Nat.add_mul]
      congr 1; omega
    · rw [show (N + k) * i.size = (xs ++ news).length by rw [List.length_append, hxl, hnl, Nat.add_mul]]
      exact List.take_left
  rcases hO.2 with ⟨rfl, rfl, rfl⟩ | ⟨b, cap, rfl, hnc, hcm, hcl, hct⟩
  · have hx : xs = [] := List.eq_nil_of_length_eq_zero (by simpa using hxl)
    subst hx
    by_cases hk : k = 0
    · subst hk
      have hn : news = [] := List.eq_nil_of_length_eq_zero (by simpa using hnl)
      subst hn
      refine ⟨.slice none 0 0, [], W, ?_, by simpa using OwnR.nil i.size, hS⟩
      rcases hs.kind with ⟨e', he⟩ | he <;> simp [Builtin.append_, run_underlying hT, run_underlying he, sizeOf, typeInfo, h1, hs.len, hs.cells]
    · exact grow none 0 rfl (by omega) (run_firstCells_none W.drew i.size 0 0 0)
  · by_cases hroom : N + k ≤ cap
    · have hB : nthB ((⟨b, cs, E⟩ : Blk) :: l) 0 = some ⟨b, cs, E⟩ := rfl
      have hmem : (⟨b, cs, E⟩ : Blk) ∈ l ++ rowB (.slice (some ⟨b, 0, none⟩) N cap) cs E := by simp [rowB_some]
      have hb := hS.blk _ hmem
      have hfit : N * i.size + news.length ≤ cs.length := by rw [hnl, hcl, ← Nat.add_mul]; exact Nat.mul_le_mul_right _ hroom
      have hst := run_storeCells_at P b (N * i.size) E news 0 cs.toArray W hb (by simpa using hfit) hs.one
      simp only [Nat.add_zero] at hst
      refine ⟨.slice (some ⟨b, 0, none⟩) (N + k) cap, cs.take (N * i.size) ++ news ++ cs.drop (N * i.size + news.length), W.setRow b (cs.take (N * i.size) ++ news ++ cs.drop (N * i.size + news.length)).toArray, ?_, ⟨by rw [List.length_append, hxl, hnl, Nat.add_mul], .inr ⟨b, cap, rfl, hroom, hcm, ?_, ?_⟩⟩, ?_⟩
      · rcases hs.kind with ⟨e', he⟩ | he <;> simp [Builtin.append_, run_underlying hT, run_underlying he, sizeOf, typeInfo, h1, hs.len, hroom, hs.cells, Addr.add_lit, hst]
      · simp only [List.length_append, List.length_take, List.length_drop]; omega
      · rw [hct, show (N + k) * i.size = (xs ++ news).length by rw [List.length_append, hxl, hnl, Nat.add_mul]]
        exact List.take_left
      · have := hS.write (l1 := l) (B := ⟨b, cs, E⟩) (l2 := []) (cs.take (N * i.size) ++ news ++ cs.drop (N * i.size + news.length))
        exact this
    · refine grow (some ⟨b, 0, none⟩) cap rfl (by omega) ?_
      have hmem : (⟨b, cs, E⟩ : Blk) ∈ l ++ rowB (.slice (some ⟨b, 0, none⟩) N cap) cs E := by simp [rowB_some]
      have hb := hS.blk _ hmem
      refine run_firstCells_some (P := P) W.drew i.size N ⟨b, 0, none⟩ N cap xs hxl ?_
      intro j u hj
      have hjx : j < xs.length := (List.getElem?_eq_some_iff.1 hj).1
      have : cs[j]? = some u := by rw [← hct, List.getElem?_take_of_lt (by omega)] at hj; exact hj
      rw [add_off, Nat.zero_add]
      show (W.drew).cell? ⟨b, j, none⟩ = some u
      have hbd : (W.drew).heap[b]? = some (.cells cs.toArray E (0, 0)) := hb
      simp [World.cell?, hbd, this]
theorem st_append {sz by_ : Nat} {tx : TypeId} {v y' : Value} {N k : Nat} {xs cs news : List Value} (hT : P.underlying T = some (.slice E)) (hi : AI P E sz by_) (hsz : 0 < sz) (hS : St ds w W n a κ (l ++ rowB v cs E) Φ) (hO : OwnR v N sz xs cs)
    (hw : Region.wanted ⟨some d, .call { callee := .builtin .append, args := #[x, y], argTypes := #[T, tx] }, ty, pos, af, g⟩ (yielded ops a.tmps) = true) (hd : Nat.blt d n = true) (hx : ev κ x = some v) (hy : ev κ y = some y') (hs : Src P sz tx y' k news W) (hlen : (N + k) * by_ ≤ 140737488355328)
    (K : ∀ W' a v' cs', OwnR v' (N + k) sz (xs ++ news) cs' → St ds w W' n a ((d, v') :: κ) (l ++ rowB v' cs' E) Φ → wpListIn (Fw r) m P ops Q rest a W') :
    wpListIn (Fw r) m P ops Q (⟨some d, .call { callee := .builtin .append, args := #[x, y], argTypes := #[T, tx] }, ty, pos, af, g⟩ :: rest) a W := by
  obtain ⟨v', cs', W', h1, h2, h3⟩ := runs_append (ty := ty) hT hi hsz hS hO hs hlen
  refine wl_op hw (by simp) (v := v') (W' := W') ?_ (K _ _ v' cs' h2 (h3.put hd v'))
  simp only [execOp]
  simp [resolve, invoke, builtin, hS.ev hx, hS.ev hy, h1]
theorem src_own {sz k : Nat} {tx e' : TypeId} {cs : List Value} {b c i : Nat} {T' : TypeId} (hk : P.underlying tx = some (.slice e')) (hS : St ds w W n a κ l Φ) (hB : nthB l i = some ⟨b, cs, T'⟩) (hl : cs.length = k * sz) (h1 : cs.all (·.oneCell') = true) : Src P sz tx (.slice (some ⟨b, 0, none⟩) k c) k cs W :=
  Src.ofSlice W hk _ k c cs hl (fun j u hj => by rw [add_off, Nat.zero_add]; exact hS.cell hB hj) (fun u hu => List.all_eq_true.1 h1 u hu)
theorem OwnR.frozen {α : Type} {dk : Kd α} {xs : List α} {enc : α → List Value} {v : Value} {ys cs : List Value} (hS : St ds w W n a κ (l ++ rowB v cs T) Φ) (hO : OwnR v xs.length dk.sz ys cs) (hR : ∀ F W x, dk.R F W x (enc x)) (hys : ys = xs.flatMap enc) (hbd : xs.length * dk.by_ ≤ 140737488355328) :
    ∃ s : SV, v = .slice s.a xs.length s.c ∧ Sl dk (fun k => w.heap.size ≤ k) W s xs ∧ (∀ k, s.a = some k → k.off = 0) := by
  rcases hO.2 with ⟨rfl, h0, rfl⟩ | ⟨b, cap, rfl, hnc, hcm, hcl, hct⟩
  · have hx : xs = [] := List.eq_nil_of_length_eq_zero h0
    subst hx
    exact ⟨⟨none, 0⟩, rfl, ⟨Nat.le_refl _, by simp, fun j hj => absurd hj (Nat.not_lt_zero j)⟩, fun k h => by cases h⟩
  · have hmem : (⟨b, cs, T⟩ : Blk) ∈ l ++ rowB (.slice (some ⟨b, 0, none⟩) xs.length cap) cs T := by simp [rowB_some]
    have hb := hS.blk _ hmem
    have hold := hS.old _ hmem
    refine ⟨⟨some ⟨b, 0, none⟩, cap⟩, rfl, ⟨hnc, hbd, fun j hj => ⟨⟨b, 0, none⟩, enc xs[j], rfl, hold, hR _ _ _, fun i u hu => ?_⟩⟩, fun k h => by cases h; rfl⟩
    -- cell j * sz + i
    have hlen : ∀ x, (enc x).length = dk.sz := fun x => dk.len (hR (fun _ => True) W x)
    have hflat : ∀ (xs : List α) (j : Nat) (hj : j < xs.length) (i : Nat) (u : Value), (enc xs[j])[i]? = some u → (xs.flatMap enc)[j * dk.sz + i]? = some u := by
      intro xs
      induction xs with
      | nil => intro j hj; simp at hj
      | cons x xs ih =>
        intro j hj i u hu
        have hi : i < dk.sz := by rw [← hlen]; exact (List.getElem?_eq_some_iff.1 hu).1
        rw [List.flatMap_cons]
        cases j with
        | zero => rw [Nat.zero_mul, Nat.zero_add, List.getElem?_append_left (by rw [hlen]; exact hi)]; exact hu
        | succ j =>
          rw [List.getElem?_append_right (by rw [hlen, Nat.succ_mul]; omega), hlen, show (j + 1) * dk.sz + i - dk.sz = j * dk.sz + i by rw [Nat.succ_mul]; omega]
          exact ih j (by simpa using hj) i u (by simpa using hu)
    have h1 := hflat xs j hj i u hu
    rw [← hys, ← hct] at h1
    have hlt : j * dk.sz + i < xs.length * dk.sz := by
      have := (List.getElem?_eq_some_iff.1 h1).1
      rw [List.length_take] at this; omega
    rw [List.getElem?_take_of_lt hlt] at h1
    rw [add_off, Nat.zero_add]
    simp [World.cell?, hb, h1]
abbrev OwnL {α : Type} (enc : α → List Value) (sz : Nat) (v : Value) (xs : List α) (cs : List Value) : Prop := OwnR v xs.length sz (xs.flatMap enc) cs
theorem OwnL.app {α : Type} {enc : α → List Value} {sz : Nat} {v : Value} {xs ys : List α} {cs : List Value} {N k : Nat} {us vs : List Value} (h : OwnR v (N + k) sz (us ++ vs) cs) (hN : N = xs.length) (hk : k = ys.length) (hu : us = xs.flatMap enc) (hv : vs = ys.flatMap enc) : OwnL enc sz v (xs ++ ys) cs := by
  subst hN hk hu hv
  simpa [OwnL] using h
theorem St.toRow {b k c : Nat} {cs : List Value} (hS : St ds w W n a κ (⟨b, cs, T⟩ :: l) Φ) : St ds w W n a κ (l ++ rowB (.slice (some ⟨b, 0, none⟩) k c) cs T) Φ := by
  rw [rowB_some]
  have hm : ∀ x, x ∈ l ++ [(⟨b, cs, T⟩ : Blk)] ↔ x ∈ (⟨b, cs, T⟩ : Blk) :: l := fun x => by simp [or_comm]
  refine ⟨hS.size, hS.defers, hS.get, hS.below, fun x hx => hS.blk x ((hm x).1 hx), fun x hx => hS.old x ((hm x).1 hx), ?_, fun W' ho hz => hS.fact W' ⟨ho.os, ho.tape, ho.output, fun k hk hn => ho.same k hk fun x hx => hn x ((hm x).1 hx)⟩ hz⟩
  have hp := List.pairwise_cons.1 hS.dist
  refine List.pairwise_append.2 ⟨hp.2, List.pairwise_singleton _ _, fun x hx y hy => ?_⟩
  rw [List.mem_singleton.1 hy]
  exact fun e => hp.1 x hx e.symm
abbrev eInt (x : Int) : List Value := [.int .i64 x]
theorem OwnL.ints {v : Value} {xs : List Int} {cs : List Value} (hS : St ds w W n a κ (l ++ rowB v cs T) Φ) (hO : OwnL eInt 1 v xs cs) (hbd : xs.length * 8 ≤ 140737488355328) :
    ∃ s : SV, v = .slice s.a xs.length s.c ∧ Sl kInt (fun k => w.heap.size ≤ k) W s xs := by
  obtain ⟨s, h1, h2, _⟩ := OwnR.frozen (dk := kInt) (enc := eInt) hS hO (fun _ _ _ => rfl) rfl hbd
  exact ⟨s, h1, h2⟩
theorem run_conv {k k' : IntKind} {p : Int} {src dst : TypeId} (hs : P.underlying src = some (.int k)) (hd : P.underlying dst = some (.int k')) (hS : St ds w W n a κ l Φ) (hx : ev κ x = some (.int k p)) {q : Int} (hq : k'.wrap p = q) :
    (execOp a.eval ⟨some d, .convert src dst x, ty, pos, af, g⟩).run P W = .ok (.value (.int k' q)) W := by
  simp only [execOp, hS.ev hx]
  simp [convert, run_underlying hs, run_underlying hd, Conv.intToInt, hq]
theorem run_shr1 {k k' : IntKind} {p q : Int} (hS : St ds w W n a κ l Φ) (hx : ev κ x = some (.int k p)) (hy : ev κ y = some (.int k' 1)) (hb : min 1 k.bits = 1) (hq : p.fdiv 2 = q) :
    (execOp a.eval ⟨some d, .binOp .shr T x y T2, ty, pos, af, g⟩).run P W = .ok (.value (.int k q)) W := by
  simp only [execOp, hS.ev hx, hS.ev hy]
  simp only [Sem.run_bind]
  simp [eqGuard, binOp, Op.shift, hb, hq]
theorem run_slice {A : Option Addr} {k cp sz : Nat} {E : TypeId} {lo hi : Operand} {i j : Int} (hT : P.underlying T = some (.slice E)) (hz : ∀ w, (sizeOf E).run P w = .ok sz w) (hS : St ds w W n a κ l Φ) (hx : ev κ x = some (.slice A k cp)) (hlo : ev κ lo = some (.int .i64 i)) (hhi : ev κ hi = some (.int .i64 j))
    (h0 : 0 ≤ i) (h1 : i ≤ j) (h2 : j ≤ cp) : (execOp a.eval ⟨some d, .slice T x (some lo) (some hi) none, ty, pos, af, g⟩).run P W = .ok (.value (.slice (if cp = i.toNat then A else A.map (·.add (i.toNat * sz))) (j.toNat - i.toNat) (cp - i.toNat))) W := by
  have h3 : i ≤ ((j.toNat : Nat) : Int) := by omega
  simp only [execOp, hS.ev hx, Option.map_some, Option.map_none, hS.ev hlo, hS.ev hhi]
  simp [Instr.sliceAt, Instr.slice, Instr.sliceBounds, Instr.sliceBound, asIntOf, run_underlying hT, hz W, h0, h2, show (0 : Int) ≤ j by omega]
  intro hc
  omega
def CellsAt (W : World) (p : Addr) (cs : List Value) : Prop := ∀ i u, cs[i]? = some u → W.cell? (p.add i) = some u
theorem CellsAt.later {W W' : World} {p : Addr} {cs : List Value} {m0 : Nat} (h : CellsAt W p cs) (hb : Below m0 W W') (hm : p.block < m0) : CellsAt W' p cs := fun i u hu => cell_same (h i u hu) (by rw [add_block]; exact hb.block _ hm)
theorem St.cells {b i : Nat} {cs : List Value} (hS : St ds w W n a κ l Φ) (hB : nthB l i = some ⟨b, cs, T⟩) : ∀ W', Below W.heap.size W W' → CellsAt W' ⟨b, 0, none⟩ cs := fun W' hb j u hu => by
  rw [add_off, Nat.zero_add]
  have hm := nthB_in hB
  have := hS.cell hB hu
  exact cell_same this (hb.block _ (hS.lt hm))
theorem St.cell0 {b i : Nat} {v : Value} (hS : St ds w W n a κ l Φ) (hB : nthB l i = some ⟨b, [v], T⟩) : ∀ W', Below W.heap.size W W' → W'.cell? ⟨b, 0, none⟩ = some v := fun W' hb => by
  have hm := nthB_in hB
  have := hS.cell hB (j := 0) (u := v) rfl
  exact cell_same this (hb.block _ (hS.lt hm))
theorem CellsAt.at_ {w W : World} {p : Addr} {cs : List Value} (h : CellsAt w p cs) (hb : Below w.heap.size w W) : CellsAt W p cs := fun i u hu => by
  have h1 := h i u hu
  have h2 := cell_lt h1
  exact cell_same h1 (hb.block _ h2)
theorem cell_at {w W : World} {p : Addr} {v : Value} (h : w.cell? p = some v) (hb : Below w.heap.size w W) : W.cell? p = some v := cell_same h (hb.block _ (cell_lt h))
def partSV (s : SV) (lo sz : Nat) : SV := ⟨if s.c = lo then s.a else s.a.map (·.add (lo * sz)), s.c - lo⟩
theorem run_part {s : SV} {m sz lo' hi' L : Nat} {E : TypeId} {lo hi : Operand} {i j : Int} (hT : P.underlying T = some (.slice E)) (hz : ∀ w, (sizeOf E).run P w = .ok sz w) (hS : St ds w W n a κ l Φ) (hx : ev κ x = some (.slice s.a m s.c)) (hlo : ev κ lo = some (.int .i64 i)) (hhi : ev κ hi = some (.int .i64 j))
    (e1 : i = (lo' : Int)) (e2 : j = (hi' : Int)) (h1 : lo' ≤ hi') (h2 : hi' ≤ s.c) (e : L = hi' - lo') : (execOp a.eval ⟨some d, .slice T x (some lo) (some hi) none, ty, pos, af, g⟩).run P W = .ok (.value (.slice (partSV s lo' sz).a L (partSV s lo' sz).c)) W := by
  subst e1 e2 e
  exact run_slice hT hz hS hx hlo hhi (by omega) (by omega) (by omega)
theorem Sl.part {α : Type} {dk : Kd α} {F : Nat → Prop} {W : World} {s : SV} {xs : List α} (h : Sl dk F W s xs) {lo hi : Nat} (h1 : lo ≤ hi) (h2 : hi ≤ xs.length) :
    Sl dk F W (partSV s lo dk.sz) ((xs.drop lo).take (hi - lo)) := by
  have hl : ((xs.drop lo).take (hi - lo)).length = hi - lo := by simp; omega
  refine ⟨by rw [hl]; have := h.1; show hi - lo ≤ s.c - lo; omega, ?_, fun j hj => ?_⟩
  · rw [hl]
    have h3 := h.2.1
    have : (hi - lo) * dk.by_ ≤ xs.length * dk.by_ := Nat.mul_le_mul_right _ (by omega)
    omega
  · rw [hl] at hj
    obtain ⟨ad, cs, e1, e2, e3, e4⟩ := h.2.2 (lo + j) (by omega)
    have hne : ¬ s.c = lo := by have := h.1; omega
    refine ⟨ad.add (lo * dk.sz), cs, by simp [partSV, hne, e1], by rw [add_block]; exact e2, by simpa using e3, fun i u hu => ?_⟩
    have := e4 i u hu
    rw [add_add]
    rwa [show lo * dk.sz + (j * dk.sz + i) = (lo + j) * dk.sz + i by rw [Nat.add_mul]; omega]
theorem own_sl_of {α : Type} {dk : Kd α} {enc : α → List Value} {xs : List α} {b i : Nat} (hR : ∀ F W x, dk.R F W x (enc x)) (hS : St ds w W n a κ l Φ) (hB : nthB l i = some ⟨b, xs.flatMap enc, T⟩) (hbd : xs.length * dk.by_ ≤ 140737488355328) :
    Sl dk (fun _ => True) W ⟨some ⟨b, 0, none⟩, xs.length⟩ xs := by
  refine ⟨Nat.le_refl _, hbd, fun j hj => ⟨⟨b, 0, none⟩, enc xs[j], rfl, trivial, hR _ _ _, fun i' u hu => ?_⟩⟩
  have hlen : ∀ x, (enc x).length = dk.sz := fun x => dk.len (hR (fun _ => True) W x)
  have hflat : ∀ (xs : List α) (j : Nat) (hj : j < xs.length) (i : Nat) (u : Value), (enc xs[j])[i]? = some u → (xs.flatMap enc)[j * dk.sz + i]? = some u := by
    intro xs
    induction xs with
    | nil => intro j hj; simp at hj
    | cons x xs ih =>
      intro j hj i u hu
      have hi : i < dk.sz := by rw [← hlen]; exact (List.getElem?_eq_some_iff.1 hu).1
      rw [List.flatMap_cons]
      cases j with
      | zero => rw [Nat.zero_mul, Nat.zero_add, List.getElem?_append_left (by rw [hlen]; exact hi)]; exact hu
      | succ j =>
        rw [List.getElem?_append_right (by rw [hlen, Nat.succ_mul]; omega), hlen, show (j + 1) * dk.sz + i - dk.sz = j * dk.sz + i by rw [Nat.succ_mul]; omega]
        exact ih j (by simpa using hj) i u (by simpa using hu)
  rw [add_off, Nat.zero_add]
  exact hS.cell hB (hflat xs j hj i' u hu)
theorem CellsAt.get (W : World) {p : Addr} {cs : List Value} (h : CellsAt W p cs) : CellsAt W p cs := h
theorem CellsAt.sub {W : World} {p : Addr} {cs vs : List Value} {off : Nat} (h : CellsAt W p cs) (hs : Seg cs off vs) : ∀ j v, vs[j]? = some v → W.cell? ((p.add off).add j) = some v := fun j v hj => by
  rw [add_add]; exact h _ _ (hs.get j v hj)
end
end Go.Proofs.YtdnodlgebpnfoaaGreat
namespace Go.Proofs.YtdnodlgebpnfoaaGreat
open Go Go.RowKit Go.Shelf
theorem fa25_0 (b off : Nat) (w : World) : (Instr.fieldAt 25 (.pointer (some ⟨b, off, none⟩)) 0).run Tryz.prog w = .ok (.pointer (some ⟨b, off + 0, none⟩)) w := by kernel_rfl
theorem fa25_1 (b off : Nat) (w : World) : (Instr.fieldAt 25 (.pointer (some ⟨b, off, none⟩)) 1).run Tryz.prog w = .ok (.pointer (some ⟨b, off + 1, none⟩)) w := by kernel_rfl
theorem fa25_2 (b off : Nat) (w : World) : (Instr.fieldAt 25 (.pointer (some ⟨b, off, none⟩)) 2).run Tryz.prog w = .ok (.pointer (some ⟨b, off + 2, none⟩)) w := by kernel_rfl
theorem fa27_0 (b off : Nat) (w : World) : (Instr.fieldAt 27 (.pointer (some ⟨b, off, none⟩)) 0).run Tryz.prog w = .ok (.pointer (some ⟨b, off + 0, none⟩)) w := by kernel_rfl
theorem fa27_1 (b off : Nat) (w : World) : (Instr.fieldAt 27 (.pointer (some ⟨b, off, none⟩)) 1).run Tryz.prog w = .ok (.pointer (some ⟨b, off + 3, none⟩)) w := by kernel_rfl
theorem fa27_2 (b off : Nat) (w : World) : (Instr.fieldAt 27 (.pointer (some ⟨b, off, none⟩)) 2).run Tryz.prog w = .ok (.pointer (some ⟨b, off + 6, none⟩)) w := by kernel_rfl
theorem fa27_3 (b off : Nat) (w : World) : (Instr.fieldAt 27 (.pointer (some ⟨b, off, none⟩)) 3).run Tryz.prog w = .ok (.pointer (some ⟨b, off + 9, none⟩)) w := by kernel_rfl
theorem fa27_4 (b off : Nat) (w : World) : (Instr.fieldAt 27 (.pointer (some ⟨b, off, none⟩)) 4).run Tryz.prog w = .ok (.pointer (some ⟨b, off + 12, none⟩)) w := by kernel_rfl
theorem fa27_5 (b off : Nat) (w : World) : (Instr.fieldAt 27 (.pointer (some ⟨b, off, none⟩)) 5).run Tryz.prog w = .ok (.pointer (some ⟨b, off + 15, none⟩)) w := by kernel_rfl
theorem fa27_6 (b off : Nat) (w : World) : (Instr.fieldAt 27 (.pointer (some ⟨b, off, none⟩)) 6).run Tryz.prog w = .ok (.pointer (some ⟨b, off + 18, none⟩)) w := by kernel_rfl
theorem fa27_7 (b off : Nat) (w : World) : (Instr.fieldAt 27 (.pointer (some ⟨b, off, none⟩)) 7).run Tryz.prog w = .ok (.pointer (some ⟨b, off + 21, none⟩)) w := by kernel_rfl
theorem fa27_8 (b off : Nat) (w : World) : (Instr.fieldAt 27 (.pointer (some ⟨b, off, none⟩)) 8).run Tryz.prog w = .ok (.pointer (some ⟨b, off + 24, none⟩)) w := by kernel_rfl
theorem fa27_9 (b off : Nat) (w : World) : (Instr.fieldAt 27 (.pointer (some ⟨b, off, none⟩)) 9).run Tryz.prog w = .ok (.pointer (some ⟨b, off + 25, none⟩)) w := by kernel_rfl
theorem fa29_0 (b off : Nat) (w : World) : (Instr.fieldAt 29 (.pointer (some ⟨b, off, none⟩)) 0).run Tryz.prog w = .ok (.pointer (some ⟨b, off + 0, none⟩)) w := by kernel_rfl
theorem fa29_1 (b off : Nat) (w : World) : (Instr.fieldAt 29 (.pointer (some ⟨b, off, none⟩)) 1).run Tryz.prog w = .ok (.pointer (some ⟨b, off + 26, none⟩)) w := by kernel_rfl
theorem fa29_2 (b off : Nat) (w : World) : (Instr.fieldAt 29 (.pointer (some ⟨b, off, none⟩)) 2).run Tryz.prog w = .ok (.pointer (some ⟨b, off + 27, none⟩)) w := by kernel_rfl
theorem fa29_3 (b off : Nat) (w : World) : (Instr.fieldAt 29 (.pointer (some ⟨b, off, none⟩)) 3).run Tryz.prog w = .ok (.pointer (some ⟨b, off + 28, none⟩)) w := by kernel_rfl
theorem fa29_4 (b off : Nat) (w : World) : (Instr.fieldAt 29 (.pointer (some ⟨b, off, none⟩)) 4).run Tryz.prog w = .ok (.pointer (some ⟨b, off + 29, none⟩)) w := by kernel_rfl
theorem fa29_5 (b off : Nat) (w : World) : (Instr.fieldAt 29 (.pointer (some ⟨b, off, none⟩)) 5).run Tryz.prog w = .ok (.pointer (some ⟨b, off + 30, none⟩)) w := by kernel_rfl
theorem fa29_6 (b off : Nat) (w : World) : (Instr.fieldAt 29 (.pointer (some ⟨b, off, none⟩)) 6).run Tryz.prog w = .ok (.pointer (some ⟨b, off + 31, none⟩)) w := by kernel_rfl
theorem fa29_7 (b off : Nat) (w : World) : (Instr.fieldAt 29 (.pointer (some ⟨b, off, none⟩)) 7).run Tryz.prog w = .ok (.pointer (some ⟨b, off + 32, none⟩)) w := by kernel_rfl
theorem fa31_0 (b off : Nat) (w : World) : (Instr.fieldAt 31 (.pointer (some ⟨b, off, none⟩)) 0).run Tryz.prog w = .ok (.pointer (some ⟨b, off + 0, none⟩)) w := by kernel_rfl
theorem fa31_1 (b off : Nat) (w : World) : (Instr.fieldAt 31 (.pointer (some ⟨b, off, none⟩)) 1).run Tryz.prog w = .ok (.pointer (some ⟨b, off + 1, none⟩)) w := by kernel_rfl
theorem fa33_0 (b off : Nat) (w : World) : (Instr.fieldAt 33 (.pointer (some ⟨b, off, none⟩)) 0).run Tryz.prog w = .ok (.pointer (some ⟨b, off + 0, none⟩)) w := by kernel_rfl
theorem fa33_1 (b off : Nat) (w : World) : (Instr.fieldAt 33 (.pointer (some ⟨b, off, none⟩)) 1).run Tryz.prog w = .ok (.pointer (some ⟨b, off + 2, none⟩)) w := by kernel_rfl
theorem fa33_2 (b off : Nat) (w : World) : (Instr.fieldAt 33 (.pointer (some ⟨b, off, none⟩)) 2).run Tryz.prog w = .ok (.pointer (some ⟨b, off + 4, none⟩)) w := by kernel_rfl
theorem fa33_3 (b off : Nat) (w : World) : (Instr.fieldAt 33 (.pointer (some ⟨b, off, none⟩)) 3).run Tryz.prog w = .ok (.pointer (some ⟨b, off + 6, none⟩)) w := by kernel_rfl
theorem fa36_0 (b off : Nat) (w : World) : (Instr.fieldAt 36 (.pointer (some ⟨b, off, none⟩)) 0).run Tryz.prog w = .ok (.pointer (some ⟨b, off + 0, none⟩)) w := by kernel_rfl
theorem fa36_1 (b off : Nat) (w : World) : (Instr.fieldAt 36 (.pointer (some ⟨b, off, none⟩)) 1).run Tryz.prog w = .ok (.pointer (some ⟨b, off + 1, none⟩)) w := by kernel_rfl
theorem fa36_2 (b off : Nat) (w : World) : (Instr.fieldAt 36 (.pointer (some ⟨b, off, none⟩)) 2).run Tryz.prog w = .ok (.pointer (some ⟨b, off + 2, none⟩)) w := by kernel_rfl
theorem fa36_3 (b off : Nat) (w : World) : (Instr.fieldAt 36 (.pointer (some ⟨b, off, none⟩)) 3).run Tryz.prog w = .ok (.pointer (some ⟨b, off + 3, none⟩)) w := by kernel_rfl
theorem fa38_0 (b off : Nat) (w : World) : (Instr.fieldAt 38 (.pointer (some ⟨b, off, none⟩)) 0).run Tryz.prog w = .ok (.pointer (some ⟨b, off + 0, none⟩)) w := by kernel_rfl
theorem fa38_1 (b off : Nat) (w : World) : (Instr.fieldAt 38 (.pointer (some ⟨b, off, none⟩)) 1).run Tryz.prog w = .ok (.pointer (some ⟨b, off + 1, none⟩)) w := by kernel_rfl
theorem fa38_2 (b off : Nat) (w : World) : (Instr.fieldAt 38 (.pointer (some ⟨b, off, none⟩)) 2).run Tryz.prog w = .ok (.pointer (some ⟨b, off + 2, none⟩)) w := by kernel_rfl
theorem fa111_0 (b off : Nat) (w : World) : (Instr.fieldAt 111 (.pointer (some ⟨b, off, none⟩)) 0).run Tryz.prog w = .ok (.pointer (some ⟨b, off + 0, none⟩)) w := by kernel_rfl
theorem fa111_1 (b off : Nat) (w : World) : (Instr.fieldAt 111 (.pointer (some ⟨b, off, none⟩)) 1).run Tryz.prog w = .ok (.pointer (some ⟨b, off + 1, none⟩)) w := by kernel_rfl
theorem fa118_0 (b off : Nat) (w : World) : (Instr.fieldAt 118 (.pointer (some ⟨b, off, none⟩)) 0).run Tryz.prog w = .ok (.pointer (some ⟨b, off + 0, none⟩)) w := by kernel_rfl
theorem fa118_1 (b off : Nat) (w : World) : (Instr.fieldAt 118 (.pointer (some ⟨b, off, none⟩)) 1).run Tryz.prog w = .ok (.pointer (some ⟨b, off + 26, none⟩)) w := by kernel_rfl
theorem fa122_0 (b off : Nat) (w : World) : (Instr.fieldAt 122 (.pointer (some ⟨b, off, none⟩)) 0).run Tryz.prog w = .ok (.pointer (some ⟨b, off + 0, none⟩)) w := by kernel_rfl
theorem fa122_1 (b off : Nat) (w : World) : (Instr.fieldAt 122 (.pointer (some ⟨b, off, none⟩)) 1).run Tryz.prog w = .ok (.pointer (some ⟨b, off + 3, none⟩)) w := by kernel_rfl
theorem fa122_2 (b off : Nat) (w : World) : (Instr.fieldAt 122 (.pointer (some ⟨b, off, none⟩)) 2).run Tryz.prog w = .ok (.pointer (some ⟨b, off + 5, none⟩)) w := by kernel_rfl
theorem fa143_1 (b off : Nat) (w : World) : (Instr.fieldAt 143 (.pointer (some ⟨b, off, none⟩)) 1).run Tryz.prog w = .ok (.pointer (some ⟨b, off + 33, none⟩)) w := by kernel_rfl
theorem fa143_2 (b off : Nat) (w : World) : (Instr.fieldAt 143 (.pointer (some ⟨b, off, none⟩)) 2).run Tryz.prog w = .ok (.pointer (some ⟨b, off + 35, none⟩)) w := by kernel_rfl
theorem fa160_0 (b off : Nat) (w : World) : (Instr.fieldAt 160 (.pointer (some ⟨b, off, none⟩)) 0).run Tryz.prog w = .ok (.pointer (some ⟨b, off + 0, none⟩)) w := by kernel_rfl
theorem fa160_1 (b off : Nat) (w : World) : (Instr.fieldAt 160 (.pointer (some ⟨b, off, none⟩)) 1).run Tryz.prog w = .ok (.pointer (some ⟨b, off + 1, none⟩)) w := by kernel_rfl
theorem fa162_2 (b off : Nat) (w : World) : (Instr.fieldAt 162 (.pointer (some ⟨b, off, none⟩)) 2).run Tryz.prog w = .ok (.pointer (some ⟨b, off + 2, none⟩)) w := by kernel_rfl
theorem fa194_0 (b off : Nat) (w : World) : (Instr.fieldAt 194 (.pointer (some ⟨b, off, none⟩)) 0).run Tryz.prog w = .ok (.pointer (some ⟨b, off + 0, none⟩)) w := by kernel_rfl
theorem fa194_1 (b off : Nat) (w : World) : (Instr.fieldAt 194 (.pointer (some ⟨b, off, none⟩)) 1).run Tryz.prog w = .ok (.pointer (some ⟨b, off + 1, none⟩)) w := by kernel_rfl
theorem fa223_0 (b off : Nat) (w : World) : (Instr.fieldAt 223 (.pointer (some ⟨b, off, none⟩)) 0).run Tryz.prog w = .ok (.pointer (some ⟨b, off + 0, none⟩)) w := by kernel_rfl
theorem fe25_0 (p : Addr) (w : World) : (Instr.fieldAt 25 (.pointer (some p)) 0).run Tryz.prog w = .ok (.pointer (some (p.add 0))) w := by kernel_rfl
theorem fe25_1 (p : Addr) (w : World) : (Instr.fieldAt 25 (.pointer (some p)) 1).run Tryz.prog w = .ok (.pointer (some (p.add 1))) w := by kernel_rfl
theorem fe29_4 (p : Addr) (w : World) : (Instr.fieldAt 29 (.pointer (some p)) 4).run Tryz.prog w = .ok (.pointer (some (p.add 29))) w := by kernel_rfl
theorem fe29_5 (p : Addr) (w : World) : (Instr.fieldAt 29 (.pointer (some p)) 5).run Tryz.prog w = .ok (.pointer (some (p.add 30))) w := by kernel_rfl
theorem fe29_6 (p : Addr) (w : World) : (Instr.fieldAt 29 (.pointer (some p)) 6).run Tryz.prog w = .ok (.pointer (some (p.add 31))) w := by kernel_rfl
theorem fe29_7 (p : Addr) (w : World) : (Instr.fieldAt 29 (.pointer (some p)) 7).run Tryz.prog w = .ok (.pointer (some (p.add 32))) w := by kernel_rfl
theorem fe38_0 (p : Addr) (w : World) : (Instr.fieldAt 38 (.pointer (some p)) 0).run Tryz.prog w = .ok (.pointer (some (p.add 0))) w := by kernel_rfl
theorem fe38_1 (p : Addr) (w : World) : (Instr.fieldAt 38 (.pointer (some p)) 1).run Tryz.prog w = .ok (.pointer (some (p.add 1))) w := by kernel_rfl
theorem fe38_2 (p : Addr) (w : World) : (Instr.fieldAt 38 (.pointer (some p)) 2).run Tryz.prog w = .ok (.pointer (some (p.add 2))) w := by kernel_rfl
theorem fe111_0 (p : Addr) (w : World) : (Instr.fieldAt 111 (.pointer (some p)) 0).run Tryz.prog w = .ok (.pointer (some (p.add 0))) w := by kernel_rfl
theorem fe143_0 (p : Addr) (w : World) : (Instr.fieldAt 143 (.pointer (some p)) 0).run Tryz.prog w = .ok (.pointer (some (p.add 0))) w := by kernel_rfl
theorem fe143_1 (p : Addr) (w : World) : (Instr.fieldAt 143 (.pointer (some p)) 1).run Tryz.prog w = .ok (.pointer (some (p.add 33))) w := by kernel_rfl
theorem fe143_2 (p : Addr) (w : World) : (Instr.fieldAt 143 (.pointer (some p)) 2).run Tryz.prog w = .ok (.pointer (some (p.add 35))) w := by kernel_rfl
theorem fe162_2 (p : Addr) (w : World) : (Instr.fieldAt 162 (.pointer (some p)) 2).run Tryz.prog w = .ok (.pointer (some (p.add 2))) w := by kernel_rfl
theorem fe194_0 (p : Addr) (w : World) : (Instr.fieldAt 194 (.pointer (some p)) 0).run Tryz.prog w = .ok (.pointer (some (p.add 0))) w := by kernel_rfl
theorem fe194_1 (p : Addr) (w : World) : (Instr.fieldAt 194 (.pointer (some p)) 1).run Tryz.prog w = .ok (.pointer (some (p.add 1))) w := by kernel_rfl
theorem fe223_1 (p : Addr) (w : World) : (Instr.fieldAt 223 (.pointer (some p)) 1).run Tryz.prog w = .ok (.pointer (some (p.add 3))) w := by kernel_rfl
theorem fe223_2 (p : Addr) (w : World) : (Instr.fieldAt 223 (.pointer (some p)) 2).run Tryz.prog w = .ok (.pointer (some (p.add 4))) w := by kernel_rfl
theorem ai3 : AIb Tryz.prog 3 1 8 = true := by kernel_rfl
theorem ai4 : AIb Tryz.prog 4 1 1 = true := by kernel_rfl
theorem ai38 : AIb Tryz.prog 38 3 24 = true := by kernel_rfl
theorem ai178 : AIb Tryz.prog 178 1 24 = true := by kernel_rfl
theorem bd38_0_1_2 (x0_0 : Int) (x1_0 : Int) (x2_0 : Int) (W : World) : (Instr.build 38 [(0, .int .i64 x0_0), (1, .int .i64 x1_0), (2, .int .i64 x2_0)].toArray).run Tryz.prog W = .ok (.agg #[.int .i64 x0_0, .int .i64 x1_0, .int .i64 x2_0]) W := by kernel_rfl
theorem bd25_0_1_2 (Ax0_0 : Option Addr) (nx0_0 cx0_0 : Nat) (Ax1_0 : Option Addr) (nx1_0 cx1_0 : Nat) (Ax2_0 : Option Addr) (nx2_0 cx2_0 : Nat) (W : World) : (Instr.build 25 [(0, .slice Ax0_0 nx0_0 cx0_0), (1, .slice Ax1_0 nx1_0 cx1_0), (2, .slice Ax2_0 nx2_0 cx2_0)].toArray).run Tryz.prog W = .ok (.agg #[.slice Ax0_0 nx0_0 cx0_0, .slice Ax1_0 nx1_0 cx1_0, .slice Ax2_0 nx2_0 cx2_0]) W := by kernel_rfl
theorem bd27_0_1_2_3_4_5_6_7_8_9 (Ax0_0 : Option Addr) (nx0_0 cx0_0 : Nat) (Ax0_1 : Option Addr) (nx0_1 cx0_1 : Nat) (Ax0_2 : Option Addr) (nx0_2 cx0_2 : Nat) (Ax1_0 : Option Addr) (nx1_0 cx1_0 : Nat) (Ax1_1 : Option Addr) (nx1_1 cx1_1 : Nat) (Ax1_2 : Option Addr) (nx1_2 cx1_2 : Nat) (Ax2_0 : Option Addr) (nx2_0 cx2_0 : Nat) (Ax2_1 : Option Addr) (nx2_1 cx2_1 : Nat) (Ax2_2 : Option Addr) (nx2_2 cx2_2 : Nat) (Ax3_0 : Option Addr) (nx3_0 cx3_0 : Nat) (Ax3_1 : Option Addr) (nx3_1 cx3_1 : Nat) (Ax3_2 : Option Addr) (nx3_2 cx3_2 : Nat) (Ax4_0 : Option Addr) (nx4_0 cx4_0 : Nat) (Ax4_1 : Option Addr) (nx4_1 cx4_1 : Nat) (Ax4_2 : Option Addr) (nx4_2 cx4_2 : Nat) (Ax5_0 : Option Addr) (nx5_0 cx5_0 : Nat) (Ax5_1 : Option Addr) (nx5_1 cx5_1 : Nat) (Ax5_2 : Option Addr) (nx5_2 cx5_2 : Nat) (Ax6_0 : Option Addr) (nx6_0 cx6_0 : Nat) (Ax6_1 : Option Addr) (nx6_1 cx6_1 : Nat) (Ax6_2 : Option Addr) (nx6_2 cx6_2 : Nat) (Ax7_0 : Option Addr) (nx7_0 cx7_0 : Nat) (Ax7_1 : Option Addr) (nx7_1 cx7_1 : Nat) (Ax7_2 : Option Addr) (nx7_2 cx7_2 : Nat) (x8_0 : Int) (x9_0 : Int) (W : World) : (Instr.build 27 [(0, .agg #[.slice Ax0_0 nx0_0 cx0_0, .slice Ax0_1 nx0_1 cx0_1, .slice Ax0_2 nx0_2 cx0_2]), (1, .agg #[.slice Ax1_0 nx1_0 cx1_0, .slice Ax1_1 nx1_1 cx1_1, .slice Ax1_2 nx1_2 cx1_2]), (2, .agg #[.slice Ax2_0 nx2_0 cx2_0, .slice Ax2_1 nx2_1 cx2_1, .slice Ax2_2 nx2_2 cx2_2]), (3, .agg #[.slice Ax3_0 nx3_0 cx3_0, .slice Ax3_1 nx3_1 cx3_1, .slice Ax3_2 nx3_2 cx3_2]), (4, .agg #[.slice Ax4_0 nx4_0 cx4_0, .slice Ax4_1 nx4_1 cx4_1, .slice Ax4_2 nx4_2 cx4_2]), (5, .agg #[.slice Ax5_0 nx5_0 cx5_0, .slice Ax5_1 nx5_1 cx5_1, .slice Ax5_2 nx5_2 cx5_2]), (6, .agg #[.slice Ax6_0 nx6_0 cx6_0, .slice Ax6_1 nx6_1 cx6_1, .slice Ax6_2 nx6_2 cx6_2]), (7, .agg #[.slice Ax7_0 nx7_0 cx7_0, .slice Ax7_1 nx7_1 cx7_1, .slice Ax7_2 nx7_2 cx7_2]), (8, .int .i64 x8_0), (9, .int .i64 x9_0)].toArray).run Tryz.prog W = .ok (.agg #[.slice Ax0_0 nx0_0 cx0_0, .slice Ax0_1 nx0_1 cx0_1, .slice Ax0_2 nx0_2 cx0_2, .slice Ax1_0 nx1_0 cx1_0, .slice Ax1_1 nx1_1 cx1_1, .slice Ax1_2 nx1_2 cx1_2, .slice Ax2_0 nx2_0 cx2_0, .slice Ax2_1 nx2_1 cx2_1, .slice Ax2_2 nx2_2 cx2_2, .slice Ax3_0 nx3_0 cx3_0, .slice Ax3_1 nx3_1 cx3_1, .slice Ax3_2 nx3_2 cx3_2, .slice Ax4_0 nx4_0 cx4_0, .slice Ax4_1 nx4_1 cx4_1, .slice Ax4_2 nx4_2 cx4_2, .slice Ax5_0 nx5_0 cx5_0, .slice Ax5_1 nx5_1 cx5_1, .slice Ax5_2 nx5_2 cx5_2, .slice Ax6_0 nx6_0 cx6_0, .slice Ax6_1 nx6_1 cx6_1, .slice Ax6_2 nx6_2 cx6_2, .slice Ax7_0 nx7_0 cx7_0, .slice Ax7_1 nx7_1 cx7_1, .slice Ax7_2 nx7_2 cx7_2, .int .i64 x8_0, .int .i64 x9_0]) W := by kernel_rfl
theorem bd29_0_1_2_3_4_5_6_7 (Ax0_0 : Option Addr) (nx0_0 cx0_0 : Nat) (Ax0_1 : Option Addr) (nx0_1 cx0_1 : Nat) (Ax0_2 : Option Addr) (nx0_2 cx0_2 : Nat) (Ax0_3 : Option Addr) (nx0_3 cx0_3 : Nat) (Ax0_4 : Option Addr) (nx0_4 cx0_4 : Nat) (Ax0_5 : Option Addr) (nx0_5 cx0_5 : Nat) (Ax0_6 : Option Addr) (nx0_6 cx0_6 : Nat) (Ax0_7 : Option Addr) (nx0_7 cx0_7 : Nat) (Ax0_8 : Option Addr) (nx0_8 cx0_8 : Nat) (Ax0_9 : Option Addr) (nx0_9 cx0_9 : Nat) (Ax0_10 : Option Addr) (nx0_10 cx0_10 : Nat) (Ax0_11 : Option Addr) (nx0_11 cx0_11 : Nat) (Ax0_12 : Option Addr) (nx0_12 cx0_12 : Nat) (Ax0_13 : Option Addr) (nx0_13 cx0_13 : Nat) (Ax0_14 : Option Addr) (nx0_14 cx0_14 : Nat) (Ax0_15 : Option Addr) (nx0_15 cx0_15 : Nat) (Ax0_16 : Option Addr) (nx0_16 cx0_16 : Nat) (Ax0_17 : Option Addr) (nx0_17 cx0_17 : Nat) (Ax0_18 : Option Addr) (nx0_18 cx0_18 : Nat) (Ax0_19 : Option Addr) (nx0_19 cx0_19 : Nat) (Ax0_20 : Option Addr) (nx0_20 cx0_20 : Nat) (Ax0_21 : Option Addr) (nx0_21 cx0_21 : Nat) (Ax0_22 : Option Addr) (nx0_22 cx0_22 : Nat) (Ax0_23 : Option Addr) (nx0_23 cx0_23 : Nat) (x0_24 : Int) (x0_25 : Int) (x1_0 : Int) (x2_0 : Int) (x3_0 : Int) (x4_0 : Int) (x5_0 : Int) (x6_0 : Int) (x7_0 : Int) (W : World) : (Instr.build 29 [(0, .agg #[.slice Ax0_0 nx0_0 cx0_0, .slice Ax0_1 nx0_1 cx0_1, .slice Ax0_2 nx0_2 cx0_2, .slice Ax0_3 nx0_3 cx0_3, .slice Ax0_4 nx0_4 cx0_4, .slice Ax0_5 nx0_5 cx0_5, .slice Ax0_6 nx0_6 cx0_6, .slice Ax0_7 nx0_7 cx0_7, .slice Ax0_8 nx0_8 cx0_8, .slice Ax0_9 nx0_9 cx0_9, .slice Ax0_10 nx0_10 cx0_10, .slice Ax0_11 nx0_11 cx0_11, .slice Ax0_12 nx0_12 cx0_12, .slice Ax0_13 nx0_13 cx0_13, .slice Ax0_14 nx0_14 cx0_14, .slice Ax0_15 nx0_15 cx0_15, .slice Ax0_16 nx0_16 cx0_16, .slice Ax0_17 nx0_17 cx0_17, .slice Ax0_18 nx0_18 cx0_18, .slice Ax0_19 nx0_19 cx0_19, .slice Ax0_20 nx0_20 cx0_20, .slice Ax0_21 nx0_21 cx0_21, .slice Ax0_22 nx0_22 cx0_22, .slice Ax0_23 nx0_23 cx0_23, .int .i64 x0_24, .int .i64 x0_25]), (1, .int .i64 x1_0), (2, .int .i64 x2_0), (3, .int .i64 x3_0), (4, .int .i64 x4_0), (5, .int .i64 x5_0), (6, .int .i64 x6_0), (7, .int .i64 x7_0)].toArray).run Tryz.prog W = .ok (.agg #[.slice Ax0_0 nx0_0 cx0_0, .slice Ax0_1 nx0_1 cx0_1, .slice Ax0_2 nx0_2 cx0_2, .slice Ax0_3 nx0_3 cx0_3, .slice Ax0_4 nx0_4 cx0_4, .slice Ax0_5 nx0_5 cx0_5, .slice Ax0_6 nx0_6 cx0_6, .slice Ax0_7 nx0_7 cx0_7, .slice Ax0_8 nx0_8 cx0_8, .slice Ax0_9 nx0_9 cx0_9, .slice Ax0_10 nx0_10 cx0_10, .slice Ax0_11 nx0_11 cx0_11, .slice Ax0_12 nx0_12 cx0_12, .slice Ax0_13 nx0_13 cx0_13, .slice Ax0_14 nx0_14 cx0_14, .slice Ax0_15 nx0_15 cx0_15, .slice Ax0_16 nx0_16 cx0_16, .slice Ax0_17 nx0_17 cx0_17, .slice Ax0_18 nx0_18 cx0_18, .slice Ax0_19 nx0_19 cx0_19, .slice Ax0_20 nx0_20 cx0_20, .slice Ax0_21 nx0_21 cx0_21, .slice Ax0_22 nx0_22 cx0_22, .slice Ax0_23 nx0_23 cx0_23, .int .i64 x0_24, .int .i64 x0_25, .int .i64 x1_0, .int .i64 x2_0, .int .i64 x3_0, .int .i64 x4_0, .int .i64 x5_0, .int .i64 x6_0, .int .i64 x7_0]) W := by kernel_rfl
theorem bd31_0_1 (x0_0 : Int) (x1_0 : Int) (W : World) : (Instr.build 31 [(0, .int .i64 x0_0), (1, .int .i64 x1_0)].toArray).run Tryz.prog W = .ok (.agg #[.int .i64 x0_0, .int .i64 x1_0]) W := by kernel_rfl
theorem bd31_1 (x1_0 : Int) (W : World) : (Instr.build 31 [(1, .int .i64 x1_0)].toArray).run Tryz.prog W = .ok (.agg #[.int .i64 0, .int .i64 x1_0]) W := by kernel_rfl
theorem bd33_0_1_3 (x0_0 : Int) (x0_1 : Int) (x1_0 : Int) (x1_1 : Int) (x3_0 : Int) (x3_1 : Int) (W : World) : (Instr.build 33 [(0, .agg #[.int .i64 x0_0, .int .i64 x0_1]), (1, .agg #[.int .i64 x1_0, .int .i64 x1_1]), (3, .agg #[.int .i64 x3_0, .int .i64 x3_1])].toArray).run Tryz.prog W = .ok (.agg #[.int .i64 x0_0, .int .i64 x0_1, .int .i64 x1_0, .int .i64 x1_1, .int .i64 0, .int .i64 0, .int .i64 x3_0, .int .i64 x3_1]) W := by kernel_rfl
theorem bd194_0_1 (x0_0 : Int) (x1_0 : Int) (W : World) : (Instr.build 194 [(0, .int .i64 x0_0), (1, .int .i64 x1_0)].toArray).run Tryz.prog W = .ok (.agg #[.int .i64 x0_0, .int .i64 x1_0]) W := by kernel_rfl
theorem bd36_0_1_2_3 (x0_0 : Int) (x1_0 : Int) (x2_0 : Int) (Ax3_0 : Option Addr) (nx3_0 cx3_0 : Nat) (W : World) : (Instr.build 36 [(0, .int .i64 x0_0), (1, .int .i64 x1_0), (2, .int .i64 x2_0), (3, .slice Ax3_0 nx3_0 cx3_0)].toArray).run Tryz.prog W = .ok (.agg #[.int .i64 x0_0, .int .i64 x1_0, .int .i64 x2_0, .slice Ax3_0 nx3_0 cx3_0]) W := by kernel_rfl
theorem bd38_  (W : World) : (Instr.build 38 [].toArray).run Tryz.prog W = .ok (.agg #[.int .i64 0, .int .i64 0, .int .i64 0]) W := by kernel_rfl
theorem bd111_  (W : World) : (Instr.build 111 [].toArray).run Tryz.prog W = .ok (.agg #[.pointer none, .int .i64 0, .int .i64 0, .int .i64 0, .slice none 0 0]) W := by kernel_rfl
theorem bd111_0_1 (Ax0_0 : Option Addr) (x1_0 : Int) (x1_1 : Int) (x1_2 : Int) (Ax1_3 : Option Addr) (nx1_3 cx1_3 : Nat) (W : World) : (Instr.build 111 [(0, .pointer Ax0_0), (1, .agg #[.int .i64 x1_0, .int .i64 x1_1, .int .i64 x1_2, .slice Ax1_3 nx1_3 cx1_3])].toArray).run Tryz.prog W = .ok (.agg #[.pointer Ax0_0, .int .i64 x1_0, .int .i64 x1_1, .int .i64 x1_2, .slice Ax1_3 nx1_3 cx1_3]) W := by kernel_rfl
theorem bd200_0_1 (x0_0 : Int) (x1_0 : Int) (W : World) : (Instr.build 200 [(0, .int .i64 x0_0), (1, .int .i64 x1_0)].toArray).run Tryz.prog W = .ok (.agg #[.int .i64 x0_0, .int .i64 x1_0]) W := by kernel_rfl
theorem ixv200_0 (x0_0 : Int) (x0_1 : Int) (W : World) : (Instr.index 200 (.agg #[.int .i64 x0_0, .int .i64 x0_1]) (.int .i64 0)).run Tryz.prog W = .ok (.int .i64 x0_0) W := by kernel_rfl
theorem ia141_0 (b off : Nat) (W : World) : (Instr.indexAt 141 (.pointer (some ⟨b, off, none⟩)) (.int .i64 0)).run Tryz.prog W = .ok (.pointer (some ⟨b, off + 0, none⟩)) W := by kernel_rfl
theorem ixv200_1 (x0_0 : Int) (x0_1 : Int) (W : World) : (Instr.index 200 (.agg #[.int .i64 x0_0, .int .i64 x0_1]) (.int .i64 1)).run Tryz.prog W = .ok (.int .i64 x0_1) W := by kernel_rfl
theorem ia141_1 (b off : Nat) (W : World) : (Instr.indexAt 141 (.pointer (some ⟨b, off, none⟩)) (.int .i64 1)).run Tryz.prog W = .ok (.pointer (some ⟨b, off + 1, none⟩)) W := by kernel_rfl
theorem bd31_  (W : World) : (Instr.build 31 [].toArray).run Tryz.prog W = .ok (.agg #[.int .i64 0, .int .i64 0]) W := by kernel_rfl
theorem bd160_0_1 (x0_0 : Int) (x1_0 : Int) (W : World) : (Instr.build 160 [(0, .int .i64 x0_0), (1, .int .i64 x1_0)].toArray).run Tryz.prog W = .ok (.agg #[.int .i64 x0_0, .int .i64 x1_0]) W := by kernel_rfl
theorem bd162_0_1_2 (x0_0 : Int) (x1_0 : Int) (x2_0 : Int) (x2_1 : Int) (W : World) : (Instr.build 162 [(0, .int .i64 x0_0), (1, .int .i64 x1_0), (2, .agg #[.int .i64 x2_0, .int .i64 x2_1])].toArray).run Tryz.prog W = .ok (.agg #[.int .i64 x0_0, .int .i64 x1_0, .int .i64 x2_0, .int .i64 x2_1]) W := by kernel_rfl
theorem bd223_0_1_2 (Ax0_0 : Option Addr) (nx0_0 cx0_0 : Nat) (Ax0_1 : Option Addr) (nx0_1 cx0_1 : Nat) (Ax0_2 : Option Addr) (nx0_2 cx0_2 : Nat) (x1_0 : Int) (x2_0 : Int) (W : World) : (Instr.build 223 [(0, .agg #[.slice Ax0_0 nx0_0 cx0_0, .slice Ax0_1 nx0_1 cx0_1, .slice Ax0_2 nx0_2 cx0_2]), (1, .int .i64 x1_0), (2, .int .i64 x2_0)].toArray).run Tryz.prog W = .ok (.agg #[.slice Ax0_0 nx0_0 cx0_0, .slice Ax0_1 nx0_1 cx0_1, .slice Ax0_2 nx0_2 cx0_2, .int .i64 x1_0, .int .i64 x2_0]) W := by kernel_rfl
theorem bd122_0_1_2 (Ax0_0 : Option Addr) (nx0_0 cx0_0 : Nat) (Ax0_1 : Option Addr) (nx0_1 cx0_1 : Nat) (Ax0_2 : Option Addr) (nx0_2 cx0_2 : Nat) (x1_0 : Int) (x1_1 : Int) (x2_0 : Int) (x2_1 : Int) (W : World) : (Instr.build 122 [(0, .agg #[.slice Ax0_0 nx0_0 cx0_0, .slice Ax0_1 nx0_1 cx0_1, .slice Ax0_2 nx0_2 cx0_2]), (1, .agg #[.int .i64 x1_0, .int .i64 x1_1]), (2, .agg #[.int .i64 x2_0, .int .i64 x2_1])].toArray).run Tryz.prog W = .ok (.agg #[.slice Ax0_0 nx0_0 cx0_0, .slice Ax0_1 nx0_1 cx0_1, .slice Ax0_2 nx0_2 cx0_2, .int .i64 x1_0, .int .i64 x1_1, .int .i64 x2_0, .int .i64 x2_1]) W := by kernel_rfl
theorem fd31_0 (x0_0 : Int) (x0_1 : Int) (W : World) : (Instr.field 31 (.agg #[.int .i64 x0_0, .int .i64 x0_1]) 0).run Tryz.prog W = .ok (.int .i64 x0_0) W := by kernel_rfl
theorem fd31_1 (x0_0 : Int) (x0_1 : Int) (W : World) : (Instr.field 31 (.agg #[.int .i64 x0_0, .int .i64 x0_1]) 1).run Tryz.prog W = .ok (.int .i64 x0_1) W := by kernel_rfl
theorem bd118_0_1 (Ax0_0 : Option Addr) (nx0_0 cx0_0 : Nat) (Ax0_1 : Option Addr) (nx0_1 cx0_1 : Nat) (Ax0_2 : Option Addr) (nx0_2 cx0_2 : Nat) (Ax0_3 : Option Addr) (nx0_3 cx0_3 : Nat) (Ax0_4 : Option Addr) (nx0_4 cx0_4 : Nat) (Ax0_5 : Option Addr) (nx0_5 cx0_5 : Nat) (Ax0_6 : Option Addr) (nx0_6 cx0_6 : Nat) (Ax0_7 : Option Addr) (nx0_7 cx0_7 : Nat) (Ax0_8 : Option Addr) (nx0_8 cx0_8 : Nat) (Ax0_9 : Option Addr) (nx0_9 cx0_9 : Nat) (Ax0_10 : Option Addr) (nx0_10 cx0_10 : Nat) (Ax0_11 : Option Addr) (nx0_11 cx0_11 : Nat) (Ax0_12 : Option Addr) (nx0_12 cx0_12 : Nat) (Ax0_13 : Option Addr) (nx0_13 cx0_13 : Nat) (Ax0_14 : Option Addr) (nx0_14 cx0_14 : Nat) (Ax0_15 : Option Addr) (nx0_15 cx0_15 : Nat) (Ax0_16 : Option Addr) (nx0_16 cx0_16 : Nat) (Ax0_17 : Option Addr) (nx0_17 cx0_17 : Nat) (Ax0_18 : Option Addr) (nx0_18 cx0_18 : Nat) (Ax0_19 : Option Addr) (nx0_19 cx0_19 : Nat) (Ax0_20 : Option Addr) (nx0_20 cx0_20 : Nat) (Ax0_21 : Option Addr) (nx0_21 cx0_21 : Nat) (Ax0_22 : Option Addr) (nx0_22 cx0_22 : Nat) (Ax0_23 : Option Addr) (nx0_23 cx0_23 : Nat) (x0_24 : Int) (x0_25 : Int) (x1_0 : Int) (x1_1 : Int) (x1_2 : Int) (x1_3 : Int) (x1_4 : Int) (x1_5 : Int) (x1_6 : Int) (x1_7 : Int) (W : World) : (Instr.build 118 [(0, .agg #[.slice Ax0_0 nx0_0 cx0_0, .slice Ax0_1 nx0_1 cx0_1, .slice Ax0_2 nx0_2 cx0_2, .slice Ax0_3 nx0_3 cx0_3, .slice Ax0_4 nx0_4 cx0_4, .slice Ax0_5 nx0_5 cx0_5, .slice Ax0_6 nx0_6 cx0_6, .slice Ax0_7 nx0_7 cx0_7, .slice Ax0_8 nx0_8 cx0_8, .slice Ax0_9 nx0_9 cx0_9, .slice Ax0_10 nx0_10 cx0_10, .slice Ax0_11 nx0_11 cx0_11, .slice Ax0_12 nx0_12 cx0_12, .slice Ax0_13 nx0_13 cx0_13, .slice Ax0_14 nx0_14 cx0_14, .slice Ax0_15 nx0_15 cx0_15, .slice Ax0_16 nx0_16 cx0_16, .slice Ax0_17 nx0_17 cx0_17, .slice Ax0_18 nx0_18 cx0_18, .slice Ax0_19 nx0_19 cx0_19, .slice Ax0_20 nx0_20 cx0_20, .slice Ax0_21 nx0_21 cx0_21, .slice Ax0_22 nx0_22 cx0_22, .slice Ax0_23 nx0_23 cx0_23, .int .i64 x0_24, .int .i64 x0_25]), (1, .agg #[.int .i64 x1_0, .int .i64 x1_1, .int .i64 x1_2, .int .i64 x1_3, .int .i64 x1_4, .int .i64 x1_5, .int .i64 x1_6, .int .i64 x1_7])].toArray).run Tryz.prog W = .ok (.agg #[.slice Ax0_0 nx0_0 cx0_0, .slice Ax0_1 nx0_1 cx0_1, .slice Ax0_2 nx0_2 cx0_2, .slice Ax0_3 nx0_3 cx0_3, .slice Ax0_4 nx0_4 cx0_4, .slice Ax0_5 nx0_5 cx0_5, .slice Ax0_6 nx0_6 cx0_6, .slice Ax0_7 nx0_7 cx0_7, .slice Ax0_8 nx0_8 cx0_8, .slice Ax0_9 nx0_9 cx0_9, .slice Ax0_10 nx0_10 cx0_10, .slice Ax0_11 nx0_11 cx0_11, .slice Ax0_12 nx0_12 cx0_12, .slice Ax0_13 nx0_13 cx0_13, .slice Ax0_14 nx0_14 cx0_14, .slice Ax0_15 nx0_15 cx0_15, .slice Ax0_16 nx0_16 cx0_16, .slice Ax0_17 nx0_17 cx0_17, .slice Ax0_18 nx0_18 cx0_18, .slice Ax0_19 nx0_19 cx0_19, .slice Ax0_20 nx0_20 cx0_20, .slice Ax0_21 nx0_21 cx0_21, .slice Ax0_22 nx0_22 cx0_22, .slice Ax0_23 nx0_23 cx0_23, .int .i64 x0_24, .int .i64 x0_25, .int .i64 x1_0, .int .i64 x1_1, .int .i64 x1_2, .int .i64 x1_3, .int .i64 x1_4, .int .i64 x1_5, .int .i64 x1_6, .int .i64 x1_7]) W := by kernel_rfl
theorem bs22_4_0_1_2_3 (x0_0 : Int) (x1_0 : Int) (x2_0 : Int) (x3_0 : Int) (W : World) : (Instr.buildSlice 22 4 (([(0, .int .i64 x0_0), (1, .int .i64 x1_0), (2, .int .i64 x2_0), (3, .int .i64 x3_0)] : List (Nat × Value)).toArray)).run Tryz.prog W = .ok (.slice (some ⟨W.heap.size, 0, none⟩) 4 4) (W.alloc (.cells ([.int .i64 x0_0, .int .i64 x1_0, .int .i64 x2_0, .int .i64 x3_0] : List Value).toArray 3)) := by kernel_rfl
theorem bs45_2_0_1 (x0_0 : Int) (x0_1 : Int) (x0_2 : Int) (x1_0 : Int) (x1_1 : Int) (x1_2 : Int) (W : World) : (Instr.buildSlice 45 2 (([(0, .agg #[.int .i64 x0_0, .int .i64 x0_1, .int .i64 x0_2]), (1, .agg #[.int .i64 x1_0, .int .i64 x1_1, .int .i64 x1_2])] : List (Nat × Value)).toArray)).run Tryz.prog W = .ok (.slice (some ⟨W.heap.size, 0, none⟩) 2 2) (W.alloc (.cells ([.int .i64 x0_0, .int .i64 x0_1, .int .i64 x0_2, .int .i64 x1_0, .int .i64 x1_1, .int .i64 x1_2] : List Value).toArray 38)) := by kernel_rfl
theorem bs22_2_0_1 (x0_0 : Int) (x1_0 : Int) (W : World) : (Instr.buildSlice 22 2 (([(0, .int .i64 x0_0), (1, .int .i64 x1_0)] : List (Nat × Value)).toArray)).run Tryz.prog W = .ok (.slice (some ⟨W.heap.size, 0, none⟩) 2 2) (W.alloc (.cells ([.int .i64 x0_0, .int .i64 x1_0] : List Value).toArray 3)) := by kernel_rfl
theorem bs23_2_0_1 (Ax0_0 : Option Addr) (nx0_0 cx0_0 : Nat) (Ax1_0 : Option Addr) (nx1_0 cx1_0 : Nat) (W : World) : (Instr.buildSlice 23 2 (([(0, .slice Ax0_0 nx0_0 cx0_0), (1, .slice Ax1_0 nx1_0 cx1_0)] : List (Nat × Value)).toArray)).run Tryz.prog W = .ok (.slice (some ⟨W.heap.size, 0, none⟩) 2 2) (W.alloc (.cells ([.slice Ax0_0 nx0_0 cx0_0, .slice Ax1_0 nx1_0 cx1_0] : List Value).toArray 22)) := by kernel_rfl
theorem bs22_3_0_1_2 (x0_0 : Int) (x1_0 : Int) (x2_0 : Int) (W : World) : (Instr.buildSlice 22 3 (([(0, .int .i64 x0_0), (1, .int .i64 x1_0), (2, .int .i64 x2_0)] : List (Nat × Value)).toArray)).run Tryz.prog W = .ok (.slice (some ⟨W.heap.size, 0, none⟩) 3 3) (W.alloc (.cells ([.int .i64 x0_0, .int .i64 x1_0, .int .i64 x2_0] : List Value).toArray 3)) := by kernel_rfl
theorem bs23_3_0_1_2 (Ax0_0 : Option Addr) (nx0_0 cx0_0 : Nat) (Ax1_0 : Option Addr) (nx1_0 cx1_0 : Nat) (Ax2_0 : Option Addr) (nx2_0 cx2_0 : Nat) (W : World) : (Instr.buildSlice 23 3 (([(0, .slice Ax0_0 nx0_0 cx0_0), (1, .slice Ax1_0 nx1_0 cx1_0), (2, .slice Ax2_0 nx2_0 cx2_0)] : List (Nat × Value)).toArray)).run Tryz.prog W = .ok (.slice (some ⟨W.heap.size, 0, none⟩) 3 3) (W.alloc (.cells ([.slice Ax0_0 nx0_0 cx0_0, .slice Ax1_0 nx1_0 cx1_0, .slice Ax2_0 nx2_0 cx2_0] : List Value).toArray 22)) := by kernel_rfl
theorem bs34_1_0 (x0_0 : Int) (x0_1 : Int) (W : World) : (Instr.buildSlice 34 1 (([(0, .agg #[.int .i64 x0_0, .int .i64 x0_1])] : List (Nat × Value)).toArray)).run Tryz.prog W = .ok (.slice (some ⟨W.heap.size, 0, none⟩) 1 1) (W.alloc (.cells ([.int .i64 x0_0, .int .i64 x0_1] : List Value).toArray 194)) := by kernel_rfl
theorem bs61_4_0_1_2_3 (x0_0 : Int) (x0_1 : Int) (x1_0 : Int) (x1_1 : Int) (x2_0 : Int) (x2_1 : Int) (x3_0 : Int) (x3_1 : Int) (W : World) : (Instr.buildSlice 61 4 (([(0, .agg #[.int .i64 x0_0, .int .i64 x0_1]), (1, .agg #[.int .i64 x1_0, .int .i64 x1_1]), (2, .agg #[.int .i64 x2_0, .int .i64 x2_1]), (3, .agg #[.int .i64 x3_0, .int .i64 x3_1])] : List (Nat × Value)).toArray)).run Tryz.prog W = .ok (.slice (some ⟨W.heap.size, 0, none⟩) 4 4) (W.alloc (.cells ([.int .i64 x0_0, .int .i64 x0_1, .int .i64 x1_0, .int .i64 x1_1, .int .i64 x2_0, .int .i64 x2_1, .int .i64 x3_0, .int .i64 x3_1] : List Value).toArray 31)) := by kernel_rfl
theorem bs62_1_0 (x0_0 : Int) (x0_1 : Int) (W : World) : (Instr.buildSlice 62 1 (([(0, .agg #[.int .i64 x0_0, .int .i64 x0_1])] : List (Nat × Value)).toArray)).run Tryz.prog W = .ok (.slice (some ⟨W.heap.size, 0, none⟩) 1 1) (W.alloc (.cells ([.int .i64 x0_0, .int .i64 x0_1] : List Value).toArray 31)) := by kernel_rfl
theorem bs22_1_0 (x0_0 : Int) (W : World) : (Instr.buildSlice 22 1 (([(0, .int .i64 x0_0)] : List (Nat × Value)).toArray)).run Tryz.prog W = .ok (.slice (some ⟨W.heap.size, 0, none⟩) 1 1) (W.alloc (.cells ([.int .i64 x0_0] : List Value).toArray 3)) := by kernel_rfl
theorem bs178_1_0 (x0_0 : Bool) (W : World) : (Instr.buildSlice 178 1 (([(0, .bool x0_0)] : List (Nat × Value)).toArray)).run Tryz.prog W = .ok (.slice (some ⟨W.heap.size, 0, none⟩) 1 1) (W.alloc (.cells ([.bool x0_0] : List Value).toArray 4)) := by kernel_rfl
theorem bs95_1_0 (Ax0_0 : Option Addr) (nx0_0 cx0_0 : Nat) (W : World) : (Instr.buildSlice 95 1 (([(0, .slice Ax0_0 nx0_0 cx0_0)] : List (Nat × Value)).toArray)).run Tryz.prog W = .ok (.slice (some ⟨W.heap.size, 0, none⟩) 1 1) (W.alloc (.cells ([.slice Ax0_0 nx0_0 cx0_0] : List Value).toArray 178)) := by kernel_rfl
theorem bs45_1_0 (x0_0 : Int) (x0_1 : Int) (x0_2 : Int) (W : World) : (Instr.buildSlice 45 1 (([(0, .agg #[.int .i64 x0_0, .int .i64 x0_1, .int .i64 x0_2])] : List (Nat × Value)).toArray)).run Tryz.prog W = .ok (.slice (some ⟨W.heap.size, 0, none⟩) 1 1) (W.alloc (.cells ([.int .i64 x0_0, .int .i64 x0_1, .int .i64 x0_2] : List Value).toArray 38)) := by kernel_rfl
theorem bs61_2_0_1 (x0_0 : Int) (x0_1 : Int) (x1_0 : Int) (x1_1 : Int) (W : World) : (Instr.buildSlice 61 2 (([(0, .agg #[.int .i64 x0_0, .int .i64 x0_1]), (1, .agg #[.int .i64 x1_0, .int .i64 x1_1])] : List (Nat × Value)).toArray)).run Tryz.prog W = .ok (.slice (some ⟨W.heap.size, 0, none⟩) 2 2) (W.alloc (.cells ([.int .i64 x0_0, .int .i64 x0_1, .int .i64 x1_0, .int .i64 x1_1] : List Value).toArray 31)) := by kernel_rfl
theorem bs61_1_0 (x0_0 : Int) (x0_1 : Int) (W : World) : (Instr.buildSlice 61 1 (([(0, .agg #[.int .i64 x0_0, .int .i64 x0_1])] : List (Nat × Value)).toArray)).run Tryz.prog W = .ok (.slice (some ⟨W.heap.size, 0, none⟩) 1 1) (W.alloc (.cells ([.int .i64 x0_0, .int .i64 x0_1] : List Value).toArray 31)) := by kernel_rfl
theorem bs224_8_0_1_2_3_4_5_6_7 (Ax0_0 : Option Addr) (nx0_0 cx0_0 : Nat) (Ax0_1 : Option Addr) (nx0_1 cx0_1 : Nat) (Ax0_2 : Option Addr) (nx0_2 cx0_2 : Nat) (x0_3 : Int) (x0_4 : Int) (Ax1_0 : Option Addr) (nx1_0 cx1_0 : Nat) (Ax1_1 : Option Addr) (nx1_1 cx1_1 : Nat) (Ax1_2 : Option Addr) (nx1_2 cx1_2 : Nat) (x1_3 : Int) (x1_4 : Int) (Ax2_0 : Option Addr) (nx2_0 cx2_0 : Nat) (Ax2_1 : Option Addr) (nx2_1 cx2_1 : Nat) (Ax2_2 : Option Addr) (nx2_2 cx2_2 : Nat) (x2_3 : Int) (x2_4 : Int) (Ax3_0 : Option Addr) (nx3_0 cx3_0 : Nat) (Ax3_1 : Option Addr) (nx3_1 cx3_1 : Nat) (Ax3_2 : Option Addr) (nx3_2 cx3_2 : Nat) (x3_3 : Int) (x3_4 : Int) (Ax4_0 : Option Addr) (nx4_0 cx4_0 : Nat) (Ax4_1 : Option Addr) (nx4_1 cx4_1 : Nat) (Ax4_2 : Option Addr) (nx4_2 cx4_2 : Nat) (x4_3 : Int) (x4_4 : Int) (Ax5_0 : Option Addr) (nx5_0 cx5_0 : Nat) (Ax5_1 : Option Addr) (nx5_1 cx5_1 : Nat) (Ax5_2 : Option Addr) (nx5_2 cx5_2 : Nat) (x5_3 : Int) (x5_4 : Int) (Ax6_0 : Option Addr) (nx6_0 cx6_0 : Nat) (Ax6_1 : Option Addr) (nx6_1 cx6_1 : Nat) (Ax6_2 : Option Addr) (nx6_2 cx6_2 : Nat) (x6_3 : Int) (x6_4 : Int) (Ax7_0 : Option Addr) (nx7_0 cx7_0 : Nat) (Ax7_1 : Option Addr) (nx7_1 cx7_1 : Nat) (Ax7_2 : Option Addr) (nx7_2 cx7_2 : Nat) (x7_3 : Int) (x7_4 : Int) (W : World) : (Instr.buildSlice 224 8 (([(0, .agg #[.slice Ax0_0 nx0_0 cx0_0, .slice Ax0_1 nx0_1 cx0_1, .slice Ax0_2 nx0_2 cx0_2, .int .i64 x0_3, .int .i64 x0_4]), (1, .agg #[.slice Ax1_0 nx1_0 cx1_0, .slice Ax1_1 nx1_1 cx1_1, .slice Ax1_2 nx1_2 cx1_2, .int .i64 x1_3, .int .i64 x1_4]), (2, .agg #[.slice Ax2_0 nx2_0 cx2_0, .slice Ax2_1 nx2_1 cx2_1, .slice Ax2_2 nx2_2 cx2_2, .int .i64 x2_3, .int .i64 x2_4]), (3, .agg #[.slice Ax3_0 nx3_0 cx3_0, .slice Ax3_1 nx3_1 cx3_1, .slice Ax3_2 nx3_2 cx3_2, .int .i64 x3_3, .int .i64 x3_4]), (4, .agg #[.slice Ax4_0 nx4_0 cx4_0, .slice Ax4_1 nx4_1 cx4_1, .slice Ax4_2 nx4_2 cx4_2, .int .i64 x4_3, .int .i64 x4_4]), (5, .agg #[.slice Ax5_0 nx5_0 cx5_0, .slice Ax5_1 nx5_1 cx5_1, .slice Ax5_2 nx5_2 cx5_2, .int .i64 x5_3, .int .i64 x5_4]), (6, .agg #[.slice Ax6_0 nx6_0 cx6_0, .slice Ax6_1 nx6_1 cx6_1, .slice Ax6_2 nx6_2 cx6_2, .int .i64 x6_3, .int .i64 x6_4]), (7, .agg #[.slice Ax7_0 nx7_0 cx7_0, .slice Ax7_1 nx7_1 cx7_1, .slice Ax7_2 nx7_2 cx7_2, .int .i64 x7_3, .int .i64 x7_4])] : List (Nat × Value)).toArray)).run Tryz.prog W = .ok (.slice (some ⟨W.heap.size, 0, none⟩) 8 8) (W.alloc (.cells ([.slice Ax0_0 nx0_0 cx0_0, .slice Ax0_1 nx0_1 cx0_1, .slice Ax0_2 nx0_2 cx0_2, .int .i64 x0_3, .int .i64 x0_4, .slice Ax1_0 nx1_0 cx1_0, .slice Ax1_1 nx1_1 cx1_1, .slice Ax1_2 nx1_2 cx1_2, .int .i64 x1_3, .int .i64 x1_4, .slice Ax2_0 nx2_0 cx2_0, .slice Ax2_1 nx2_1 cx2_1, .slice Ax2_2 nx2_2 cx2_2, .int .i64 x2_3, .int .i64 x2_4, .slice Ax3_0 nx3_0 cx3_0, .slice Ax3_1 nx3_1 cx3_1, .slice Ax3_2 nx3_2 cx3_2, .int .i64 x3_3, .int .i64 x3_4, .slice Ax4_0 nx4_0 cx4_0, .slice Ax4_1 nx4_1 cx4_1, .slice Ax4_2 nx4_2 cx4_2, .int .i64 x4_3, .int .i64 x4_4, .slice Ax5_0 nx5_0 cx5_0, .slice Ax5_1 nx5_1 cx5_1, .slice Ax5_2 nx5_2 cx5_2, .int .i64 x5_3, .int .i64 x5_4, .slice Ax6_0 nx6_0 cx6_0, .slice Ax6_1 nx6_1 cx6_1, .slice Ax6_2 nx6_2 cx6_2, .int .i64 x6_3, .int .i64 x6_4, .slice Ax7_0 nx7_0 cx7_0, .slice Ax7_1 nx7_1 cx7_1, .slice Ax7_2 nx7_2 cx7_2, .int .i64 x7_3, .int .i64 x7_4] : List Value).toArray 223)) := by kernel_rfl
theorem bs120_1_0 (Ax0_0 : Option Addr) (nx0_0 cx0_0 : Nat) (Ax0_1 : Option Addr) (nx0_1 cx0_1 : Nat) (Ax0_2 : Option Addr) (nx0_2 cx0_2 : Nat) (x0_3 : Int) (x0_4 : Int) (x0_5 : Int) (x0_6 : Int) (W : World) : (Instr.buildSlice 120 1 (([(0, .agg #[.slice Ax0_0 nx0_0 cx0_0, .slice Ax0_1 nx0_1 cx0_1, .slice Ax0_2 nx0_2 cx0_2, .int .i64 x0_3, .int .i64 x0_4, .int .i64 x0_5, .int .i64 x0_6])] : List (Nat × Value)).toArray)).run Tryz.prog W = .ok (.slice (some ⟨W.heap.size, 0, none⟩) 1 1) (W.alloc (.cells ([.slice Ax0_0 nx0_0 cx0_0, .slice Ax0_1 nx0_1 cx0_1, .slice Ax0_2 nx0_2 cx0_2, .int .i64 x0_3, .int .i64 x0_4, .int .i64 x0_5, .int .i64 x0_6] : List Value).toArray 122)) := by kernel_rfl
theorem eqN38 (a0 a1 a2 c0 c1 c2 : Int) (x y : Operand) (W : World) : (do eqGuard .neq 38 x y (.agg #[.int .i64 a0, .int .i64 a1, .int .i64 a2]) (.agg #[.int .i64 c0, .int .i64 c1, .int .i64 c2]); binOp .neq 38 (.agg #[.int .i64 a0, .int .i64 a1, .int .i64 a2]) (.agg #[.int .i64 c0, .int .i64 c1, .int .i64 c2]) : Sem Value).run Tryz.prog W = .ok (.bool (!(a0 == c0 && (a1 == c1 && a2 == c2)))) W := by
  have h1 : (Op.equalIn 10000 38 (.agg #[.int .i64 a0, .int .i64 a1, .int .i64 a2]) (.agg #[.int .i64 c0, .int .i64 c1, .int .i64 c2])).run Tryz.prog W = .ok (a0 == c0 && (a1 == c1 && a2 == c2)) W := by
    rw [run_equalIn_struct W 9999 38 _ _ (by kernel_rfl) (by kernel_rfl)]
    rw [show Tryz.prog.fieldsOf 38 = _ from by simp only [Program.fieldsOf, Tryz.underlying38]; rfl]
    cases h0_ : a0 == c0 <;> cases h1_ : a1 == c1 <;> cases h2_ : a2 == c2 <;> simp [Op.eqFields, part, run_equalIn_int W 9998 3 .i64 .i64 _ _ Tryz.underlying3, h0_, h1_, h2_, Tryz.isAgg3]
  rw [Sem.run_bind, run_eqGuard_agg W .neq 38 x y _ _ (by kernel_rfl)]
  simp only [Result.andThen_ok]
  rw [run_neq_struct, h1]; rfl
end Go.Proofs.YtdnodlgebpnfoaaGreat
