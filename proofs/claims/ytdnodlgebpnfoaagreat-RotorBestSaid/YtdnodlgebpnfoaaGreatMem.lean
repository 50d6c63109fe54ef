/- The engine's steps, more: memory of one's own, memory that came in, calls, a function's begin and end. -/
import Derived.Test.YtdnodlgebpnfoaaGreatStep
namespace Go.Proofs.YtdnodlgebpnfoaaGreat
open Go Go.RowKit Go.Shelf

def nth : List Value → Nat → Option Value
  | [], _ => none
  | v :: _, 0 => some v
  | _ :: vs, k + 1 => nth vs k
def nthB : List Blk → Nat → Option Blk
  | [], _ => none
  | B :: _, 0 => some B
  | _ :: Bs, k + 1 => nthB Bs k
def setB : List Blk → Nat → List Value → List Blk
  | [], _, _ => []
  | B :: Bs, 0, cs => ⟨B.b, cs, B.T⟩ :: Bs
  | B :: Bs, k + 1, cs => B :: setB Bs k cs
/-- The cells vs lie in cs from off on. -/
def Seg (cs : List Value) : Nat → List Value → Prop
  | _, [] => True
  | off, v :: vs => nth cs off = some v ∧ Seg cs (off + 1) vs
theorem nth_eq : ∀ (cs : List Value) (k : Nat), nth cs k = cs[k]?
  | [], _ => by simp [nth]
  | v :: vs, 0 => by simp [nth]
  | v :: vs, k + 1 => by simp [nth, nth_eq vs k]
theorem Seg.get {cs : List Value} : ∀ {vs : List Value} {off : Nat}, Seg cs off vs → ∀ j v, vs[j]? = some v → cs[off + j]? = some v
  | [], _, _, j, v, h => by simp at h
  | u :: us, off, hs, 0, v, h => by
    simp only [List.getElem?_cons_zero, Option.some.injEq] at h
    subst h
    have := hs.1
    rw [nth_eq] at this
    simpa using this
  | u :: us, off, hs, j + 1, v, h => by
    have := Seg.get hs.2 j v (by simpa using h)
    rwa [show off + (j + 1) = off + 1 + j by omega]
theorem nthB_mem : ∀ {l : List Blk} {i : Nat} {B : Blk}, nthB l i = some B → ∃ l1 l2, l = l1 ++ B :: l2 ∧ ∀ cs, setB l i cs = l1 ++ ⟨B.b, cs, B.T⟩ :: l2
  | [], i, B, h => by simp [nthB] at h
  | C :: l, 0, B, h => by
    simp only [nthB, Option.some.injEq] at h
    subst h
    exact ⟨[], l, rfl, fun cs => rfl⟩
  | C :: l, i + 1, B, h => by
    obtain ⟨l1, l2, rfl, h2⟩ := nthB_mem (l := l) (i := i) h
    exact ⟨C :: l1, l2, rfl, fun cs => by simp [setB, h2 cs]⟩
theorem nthB_in {l : List Blk} {i : Nat} {B : Blk} (h : nthB l i = some B) : B ∈ l := by
  obtain ⟨l1, l2, rfl, _⟩ := nthB_mem h
  simp
theorem add_off (b off j : Nat) : (⟨b, off, none⟩ : Addr).add j = ⟨b, off + j, none⟩ := by unfold Addr.add; split <;> simp_all

/-- What a call of a function comes to: it hands back v, all that was there is as it was, and R says the rest. -/
def Ret (P : Program) (f : FuncId) (args : List Value) (W : World) (R : Value → World → Prop) : Prop :=
  Calls P f args.toArray W fun e W' => ∃ v, e = .returned v ∧ Below W.heap.size W W' ∧ R v W'
theorem Ret.mono {P : Program} {f : FuncId} {args : List Value} {W : World} {R R' : Value → World → Prop} (h : Ret P f args W R) (hr : ∀ v W', Below W.heap.size W W' → R v W' → R' v W') : Ret P f args W R' :=
  Calls.mono h fun _ _ ⟨v, e, hb, hR⟩ => ⟨v, e, hb, hr v _ hb hR⟩

def evp (κ : KV) : List (Nat × Operand) → Option (List (Nat × Value))
  | [] => some []
  | (i, x) :: xs => match ev κ x, evp κ xs with
    | some v, some vs => some ((i, v) :: vs)
    | _, _ => none
def enumFrom (k : Nat) : List Value → KV
  | [] => []
  | v :: vs => (k, v) :: enumFrom (k + 1) vs

section
variable {P : Program} {r : Option Nat} {m : Nat} {ops : Array Oper} {Q : Exit → Act → World → Prop} {rest : List Oper} {o : Oper}
  {ds : List Nat} {w W W' : World} {n d : Nat} {a : Act} {κ : KV} {l l1 l2 : List Blk} {Φ : World → Prop} {x y c : Operand} {v u : Value} {ty T T2 : TypeId} {pos : String} {af : Array Edge} {g : Option (Nat × Bool)}

theorem St.evp (h : St ds w W n a κ l Φ) : ∀ {xs : List (Nat × Operand)} {vs : List (Nat × Value)}, evp κ xs = some vs → xs.map (fun p => (p.1, a.eval p.2)) = vs
  | [], vs, hx => by simp only [Go.Proofs.YtdnodlgebpnfoaaGreat.evp, Option.some.injEq] at hx; subst hx; rfl
  | (i, x) :: xs, vs, hx => by
    simp only [Go.Proofs.YtdnodlgebpnfoaaGreat.evp] at hx
    cases h1 : Go.Proofs.YtdnodlgebpnfoaaGreat.ev κ x with
    | none => rw [h1] at hx; cases hx
    | some v =>
      cases h2 : Go.Proofs.YtdnodlgebpnfoaaGreat.evp κ xs with
      | none => rw [h1, h2] at hx; cases hx
      | some us =>
        rw [h1, h2] at hx
        simp only [Option.some.injEq] at hx
        subst hx
        rw [List.map_cons, h.ev h1, St.evp h h2]

/-! ### new blocks -/
theorem st_box_agg {cs : List Value} (hS : St ds w W n a κ l Φ) (hw : Region.wanted ⟨some d, .box T x, ty, pos, af, g⟩ (yielded ops a.tmps) = true) (hd : Nat.blt d n = true) (hx : ev κ x = some (.agg cs.toArray))
    (K : ∀ W a b, St ds w W n a ((d, .pointer (some ⟨b, 0, none⟩)) :: κ) (⟨b, cs, T⟩ :: l) Φ → wpListIn (Fw r) m P ops Q rest a W) : wpListIn (Fw r) m P ops Q (⟨some d, .box T x, ty, pos, af, g⟩ :: rest) a W :=
  wl_op hw (by simp) (v := .pointer (some ⟨W.heap.size, 0, none⟩)) (W' := W.alloc (.cells cs.toArray T)) (by
    simp only [execOp, hS.ev hx]
    simp [Instr.box, newVar, newRow, Value.cells, newObj, Sem.run]) (K _ _ _ ((hS.alloc cs T).put hd _))
theorem st_box_one (hS : St ds w W n a κ l Φ) (hw : Region.wanted ⟨some d, .box T x, ty, pos, af, g⟩ (yielded ops a.tmps) = true) (hd : Nat.blt d n = true) (hx : ev κ x = some v) (hv : v.cells = #[v])
    (K : ∀ W a b, St ds w W n a ((d, .pointer (some ⟨b, 0, none⟩)) :: κ) (⟨b, [v], T⟩ :: l) Φ → wpListIn (Fw r) m P ops Q rest a W) : wpListIn (Fw r) m P ops Q (⟨some d, .box T x, ty, pos, af, g⟩ :: rest) a W :=
  wl_op hw (by simp) (v := .pointer (some ⟨W.heap.size, 0, none⟩)) (W' := W.alloc (.cells #[v] T)) (by
    simp only [execOp, hS.ev hx]
    simp [Instr.box, newVar, newRow, hv, newObj, Sem.run]) (K _ _ _ ((hS.alloc [v] T).put hd _))
theorem st_alloc_agg {cs : List Value} (hz : ∀ w, (zeroValue T).run P w = .ok (.agg cs.toArray) w) (hS : St ds w W n a κ l Φ) (hw : Region.wanted ⟨some d, .alloc T, ty, pos, af, g⟩ (yielded ops a.tmps) = true) (hd : Nat.blt d n = true)
    (K : ∀ W a b, St ds w W n a ((d, .pointer (some ⟨b, 0, none⟩)) :: κ) (⟨b, cs, T⟩ :: l) Φ → wpListIn (Fw r) m P ops Q rest a W) : wpListIn (Fw r) m P ops Q (⟨some d, .alloc T, ty, pos, af, g⟩ :: rest) a W :=
  wl_op hw (by simp) (v := .pointer (some ⟨W.heap.size, 0, none⟩)) (W' := W.alloc (.cells cs.toArray T)) (by
    simp only [execOp]
    simp [Instr.alloc, hz W, newVar, newRow, Value.cells, newObj, Sem.run]) (K _ _ _ ((hS.alloc cs T).put hd _))
theorem st_alloc_one (hz : ∀ w, (zeroValue T).run P w = .ok v w) (hv : v.cells = #[v]) (hS : St ds w W n a κ l Φ) (hw : Region.wanted ⟨some d, .alloc T, ty, pos, af, g⟩ (yielded ops a.tmps) = true) (hd : Nat.blt d n = true)
    (K : ∀ W a b, St ds w W n a ((d, .pointer (some ⟨b, 0, none⟩)) :: κ) (⟨b, [v], T⟩ :: l) Φ → wpListIn (Fw r) m P ops Q rest a W) : wpListIn (Fw r) m P ops Q (⟨some d, .alloc T, ty, pos, af, g⟩ :: rest) a W :=
  wl_op hw (by simp) (v := .pointer (some ⟨W.heap.size, 0, none⟩)) (W' := W.alloc (.cells #[v] T)) (by
    simp only [execOp]
    simp [Instr.alloc, hz W, newVar, newRow, hv, newObj, Sem.run]) (K _ _ _ ((hS.alloc [v] T).put hd _))
theorem st_buildSlice {E : TypeId} {k : Nat} {parts : Array (Nat × Operand)} {pv : List (Nat × Value)} {cs : List Value} (hrun : ∀ W, (Instr.buildSlice T k pv.toArray).run P W = .ok (.slice (some ⟨W.heap.size, 0, none⟩) k k) (W.alloc (.cells cs.toArray E)))
    (hS : St ds w W n a κ l Φ) (hw : Region.wanted ⟨some d, .buildSlice T k parts, ty, pos, af, g⟩ (yielded ops a.tmps) = true) (hd : Nat.blt d n = true) (hp : evp κ parts.toList = some pv)
    (K : ∀ W a b, St ds w W n a ((d, .slice (some ⟨b, 0, none⟩) k k) :: κ) (⟨b, cs, E⟩ :: l) Φ → wpListIn (Fw r) m P ops Q rest a W) : wpListIn (Fw r) m P ops Q (⟨some d, .buildSlice T k parts, ty, pos, af, g⟩ :: rest) a W :=
  wl_op hw (by simp) (v := .slice (some ⟨W.heap.size, 0, none⟩) k k) (W' := W.alloc (.cells cs.toArray E)) (by
    have h1 : (parts.map fun p => (p.1, a.eval p.2)) = pv.toArray := by rw [← hS.evp hp, ← Array.toList_map]
    simp only [execOp]
    rw [show (parts.map fun (i, x) => (i, a.eval x)) = pv.toArray from h1, Sem.run_bind, hrun W]
    rfl) (K _ _ _ ((hS.alloc cs E).put hd _))
theorem run_build {parts : Array (Nat × Operand)} {pv : List (Nat × Value)} (hrun : ∀ W, (Instr.build T pv.toArray).run P W = .ok v W)
    (hS : St ds w W n a κ l Φ) (hp : evp κ parts.toList = some pv) : (execOp a.eval ⟨some d, .build T parts, ty, pos, af, g⟩).run P W = .ok (.value v) W := by
  have h1 : (parts.map fun p => (p.1, a.eval p.2)) = pv.toArray := by rw [← hS.evp hp, ← Array.toList_map]
  simp only [execOp]
  rw [show (parts.map fun (i, x) => (i, a.eval x)) = pv.toArray from h1, Sem.run_bind, hrun W]
  rfl

/-! ### addresses and loads -/
theorem run_fieldAddr {b off off' f : Nat} (hf : ∀ b off w, (Instr.fieldAt T (.pointer (some ⟨b, off, none⟩)) f).run P w = .ok (.pointer (some ⟨b, off + off', none⟩)) w)
    (hS : St ds w W n a κ l Φ) (hx : ev κ x = some (.pointer (some ⟨b, off, none⟩))) : (execOp a.eval ⟨some d, .fieldAddr T x f, ty, pos, af, g⟩).run P W = .ok (.value (.pointer (some ⟨b, off + off', none⟩))) W := by
  simp only [execOp, hS.ev hx]
  rw [Sem.run_bind, hf]
  rfl
/-- Inside memory that came in. -/
theorem run_fieldAddrE {p : Addr} {off' f : Nat} (hf : ∀ (p : Addr) w, (Instr.fieldAt T (.pointer (some p)) f).run P w = .ok (.pointer (some (p.add off'))) w)
    (hS : St ds w W n a κ l Φ) (hx : ev κ x = some (.pointer (some p))) : (execOp a.eval ⟨some d, .fieldAddr T x f, ty, pos, af, g⟩).run P W = .ok (.value (.pointer (some (p.add off')))) W := by
  simp only [execOp, hS.ev hx]
  rw [Sem.run_bind, hf]
  rfl
theorem St.cell (hS : St ds w W n a κ l Φ) {i : Nat} {B : Blk} (hB : nthB l i = some B) {j : Nat} {u : Value} (hj : B.cs[j]? = some u) : W.cell? ⟨B.b, j, none⟩ = some u := by
  have := hS.blk B (nthB_in hB)
  simp [World.cell?, this, hj]
theorem run_load_one {b off i : Nat} {cs : List Value} {E : TypeId} (hT : ∀ w, (isAgg T).run P w = .ok false w) (hS : St ds w W n a κ l Φ)
    (hx : ev κ x = some (.pointer (some ⟨b, off, none⟩))) (hB : nthB l i = some ⟨b, cs, E⟩) (hv : nth cs off = some v) : (execOp a.eval ⟨some d, .load T x, ty, pos, af, g⟩).run P W = .ok (.value v) W := by
  have hc := hS.cell hB (j := off) (u := v) (by rw [← nth_eq]; exact hv)
  simp only [execOp, hS.ev hx]
  simp [Instr.loadAt, Instr.sureAddr, loadVar, hT W, load, Sem.run, hc]
theorem run_load_agg {b off i k : Nat} {cs vs : List Value} {E : TypeId} (hT : ∀ w, (isAgg T).run P w = .ok true w) (hk : ∀ w, (sizeOf T).run P w = .ok k w) (hS : St ds w W n a κ l Φ)
    (hx : ev κ x = some (.pointer (some ⟨b, off, none⟩))) (hB : nthB l i = some ⟨b, cs, E⟩) (hl : vs.length = k) (hv : Seg cs off vs) : (execOp a.eval ⟨some d, .load T x, ty, pos, af, g⟩).run P W = .ok (.value (.agg vs.toArray)) W := by
  have hc := run_loadCells_list (P := P) W ⟨b, off, none⟩ vs (fun j u hj => by rw [add_off]; exact hS.cell hB (hv.get j u hj))
  simp only [execOp, hS.ev hx]
  simp [Instr.loadAt, Instr.sureAddr, loadVar, hT W, hk W, ← hl, hc]
/-- The whole of a block. -/
theorem run_load_all {b i k : Nat} {cs : List Value} {E : TypeId} (hT : ∀ w, (isAgg T).run P w = .ok true w) (hk : ∀ w, (sizeOf T).run P w = .ok k w) (hS : St ds w W n a κ l Φ)
    (hx : ev κ x = some (.pointer (some ⟨b, 0, none⟩))) (hB : nthB l i = some ⟨b, cs, E⟩) (hl : Nat.beq cs.length k = true) : (execOp a.eval ⟨some d, .load T x, ty, pos, af, g⟩).run P W = .ok (.value (.agg cs.toArray)) W := by
  have hc := run_loadCells_list (P := P) W ⟨b, 0, none⟩ cs (fun j u hj => by rw [add_off, Nat.zero_add]; exact hS.cell hB hj)
  simp only [execOp, hS.ev hx]
  simp [Instr.loadAt, Instr.sureAddr, loadVar, hT W, hk W, ← Nat.eq_of_beq_eq_true hl, hc]
/-- Out of memory that came in. -/
theorem run_load_cell {p : Addr} (hT : ∀ w, (isAgg T).run P w = .ok false w) (hS : St ds w W n a κ l Φ) (hx : ev κ x = some (.pointer (some p))) (hc : W.cell? p = some v) : (execOp a.eval ⟨some d, .load T x, ty, pos, af, g⟩).run P W = .ok (.value v) W := by
  simp only [execOp, hS.ev hx]
  simp [Instr.loadAt, Instr.sureAddr, loadVar, hT W, load, Sem.run, hc]
theorem run_load_ext {p : Addr} {k : Nat} {vs : List Value} (hT : ∀ w, (isAgg T).run P w = .ok true w) (hk : ∀ w, (sizeOf T).run P w = .ok k w) (hS : St ds w W n a κ l Φ)
    (hx : ev κ x = some (.pointer (some p))) (hl : vs.length = k) (hc : ∀ j v, vs[j]? = some v → W.cell? (p.add j) = some v) : (execOp a.eval ⟨some d, .load T x, ty, pos, af, g⟩).run P W = .ok (.value (.agg vs.toArray)) W := by
  have hc := run_loadCells_list (P := P) W p vs hc
  simp only [execOp, hS.ev hx]
  simp [Instr.loadAt, Instr.sureAddr, loadVar, hT W, hk W, ← hl, hc]
theorem run_indexAddr {s : Option Addr} {A : Addr} {k cp : Nat} {E : TypeId} {sz : Nat} {i : Int} (hT : P.underlying T = some (.slice E)) (hz : ∀ w, (sizeOf E).run P w = .ok sz w) (hS : St ds w W n a κ l Φ)
    (hx : ev κ x = some (.slice s k cp)) (hy : ev κ y = some (.int .i64 i)) (hs : s = some A) (h0 : 0 ≤ i) (h1 : i < k) : (execOp a.eval ⟨some d, .indexAddr T x y, ty, pos, af, g⟩).run P W = .ok (.value (.pointer (some (A.add (i.toNat * sz))))) W := by
  subst hs
  simp only [execOp, hS.ev hx, hS.ev hy]
  simp [Instr.indexAt, asIntOf, run_underlying hT, hz W, h0, h1]

/-! ### stores into one's own blocks -/
def splice (cs : List Value) (off : Nat) (vs : List Value) : List Value := cs.take off ++ vs ++ cs.drop (off + vs.length)
theorem st_store {b off i k : Nat} {cs vs cs' : List Value} {E : TypeId} (hk : ∀ w, (sizeOf T).run P w = .ok k w) (hS : St ds w W n a κ l Φ) (hw : Region.wanted ⟨none, .store T x y, ty, pos, af, g⟩ (yielded ops a.tmps) = true)
    (hx : ev κ x = some (.pointer (some ⟨b, off, none⟩))) (hB : nthB l i = some ⟨b, cs, E⟩) (hy : ev κ y = some v) (hvs : v.cells.toList = vs) (hl : Nat.beq vs.length k = true) (hin : Nat.ble (off + vs.length) cs.length = true) (h1 : vs.all (·.oneCell') = true) (hcs : splice cs off vs = cs')
    (K : ∀ W a, St ds w W n a κ (setB l i cs') Φ → wpListIn (Fw r) m P ops Q rest a W) : wpListIn (Fw r) m P ops Q (⟨none, .store T x y, ty, pos, af, g⟩ :: rest) a W := by
  obtain ⟨l1, l2, e1, e2⟩ := nthB_mem hB
  have hb := hS.blk _ (nthB_in hB)
  have hrun := run_storeCells_at (P := P) b off E vs 0 cs.toArray W hb (by simpa using Nat.ble_eq.mp hin) (fun u hu => List.all_eq_true.1 h1 u hu)
  subst hcs
  refine wl_unit (W' := W.setRow b (splice cs off vs).toArray) hw (by simp) ?_ (K _ _ ?_)
  · simp only [execOp, hS.ev hx, hS.ev hy]
    have hsz : v.cells.size = k := by rw [← Array.length_toList, hvs]; exact Nat.eq_of_beq_eq_true hl
    simp [Instr.storeAt, Instr.sureAddr, storeVar, hk W, hsz, hvs, hrun, splice]
  · rw [e2]
    subst e1
    exact (hS.write (B := ⟨b, cs, E⟩) _)

/-! ### calls -/
theorem st_call {f : FuncId} {args : Array Operand} {vs : List Value} {tys : Array TypeId} {R : Value → World → Prop} (hc : Ret P f vs W R) (hf : Enters P f) (hS : St ds w W n a κ l Φ)
    (hw : Region.wanted ⟨some d, .call { callee := .value (.func f), args := args, argTypes := tys }, ty, pos, af, g⟩ (yielded ops a.tmps) = true) (hd : Nat.blt d n = true) (hx : evs κ args.toList = some vs)
    (K : ∀ v W' a, R v W' → Below W.heap.size W W' → (∀ B ∈ l, B.b < W.heap.size) → St ds w W' n a ((d, v) :: κ) l Φ → wpListIn (Fw r) m P ops Q rest a W') :
    wpListIn (Fw r) m P ops Q (⟨some d, .call { callee := .value (.func f), args := args, argTypes := tys }, ty, pos, af, g⟩ :: rest) a W := by
  refine wl_enter (f := f) (args := vs.toArray) hw (by simp) ?_ hc ?_
  · have h1 : args.map a.eval = vs.toArray := by rw [← hS.evs hx, ← Array.toList_map]
    simp only [execOp, resolve, Act.eval, Deferred.ofValue]
    have h2 := hf vs.toArray W
    simp [invoke, h1, h2]
  · rintro e W' ⟨v, rfl, hb, hR⟩
    exact ⟨v, rfl, K v W' _ hR hb (fun B hB => hS.lt hB) ((hS.grow hb).put hd v)⟩
/-- A call of a function value. -/
theorem st_callv {f : FuncId} {t : Tmp} {args : Array Operand} {vs : List Value} {fi cap : Array Value} {tys : Array TypeId} {R : Value → World → Prop} (hS : St ds w W n a κ l Φ) (ht : lk κ t = some (.func (.func f) fi cap)) (hx : evs κ args.toList = some vs) (hf : Enters P f) (hc : Ret P f (fi.toList ++ vs ++ cap.toList) W R)
    (hw : Region.wanted ⟨some d, .call { callee := .value (.tmp t), args := args, argTypes := tys }, ty, pos, af, g⟩ (yielded ops a.tmps) = true) (hd : Nat.blt d n = true)
    (K : ∀ v W' a, R v W' → Below W.heap.size W W' → (∀ B ∈ l, B.b < W.heap.size) → St ds w W' n a ((d, v) :: κ) l Φ → wpListIn (Fw r) m P ops Q rest a W') :
    wpListIn (Fw r) m P ops Q (⟨some d, .call { callee := .value (.tmp t), args := args, argTypes := tys }, ty, pos, af, g⟩ :: rest) a W := by
  refine wl_enter (f := f) (args := (fi.toList ++ vs ++ cap.toList).toArray) hw (by simp) ?_ hc ?_
  · have h1 : args.map a.eval = vs.toArray := by rw [← hS.evs hx, ← Array.toList_map]
    have h3 : a.eval (.tmp t) = .func (.func f) fi cap := hS.ev ht
    simp only [execOp, resolve, h3, Deferred.ofValue]
    have h2 := hf (fi ++ (vs.toArray ++ cap)) W
    simp [invoke, h1, h2]
  · rintro e W' ⟨v, rfl, hb, hR⟩
    exact ⟨v, rfl, K v W' _ hR hb (fun B hB => hS.lt hB) ((hS.grow hb).put hd v)⟩

/-! ### a region that draws its order, and only reads and calls what hands back the same value in every later world -/
/-- The worlds behind W. -/
def Later (W W' : World) : Prop := Below W.heap.size W W'
theorem st_draw {id : Nat} {lops : List Oper} (hm : P.follows .mixedOrders = true) (hB : Region.lexB .any lops.toArray = true) (_hS : St ds w W n a κ l Φ)
    (h : wpQuiet P lops.toArray (Later W) (fun a' => ∀ W', Later W W' → Q .normal a' W') lops a) : (Code.region id lops.toArray true).wpIn (Fw none) m P Q a W :=
  (wpIn_wide (n := m)).2 (wp_region_quiet (C := Later W) hm hB (show Below _ _ _ from ⟨rfl, rfl, rfl, Nat.le_refl _, fun _ _ => rfl⟩) (by simpa using h))
variable {QA : Act → Prop}
theorem qt_v {op : Op} (hS : St ds w W n a κ l Φ) (hw : Region.wanted ⟨some d, op, ty, pos, af, g⟩ (yielded ops a.tmps) = true) (hd : Nat.blt d n = true)
    (hr : ∀ W', Below W.heap.size W W' → St ds w W' n a κ l Φ → (execOp a.eval ⟨some d, op, ty, pos, af, g⟩).run P W' = .ok (.value v) W')
    (K : ∀ a, St ds w W n a ((d, v) :: κ) l Φ → wpQuiet P ops (Later W) QA rest a) : wpQuiet P ops (Later W) QA (⟨some d, op, ty, pos, af, g⟩ :: rest) a := by
  unfold wpQuiet
  rw [if_pos hw]
  refine ⟨v, fun W' hL => ?_, K _ (hS.put hd v)⟩
  unfold Oper.quietAt
  rw [hr W' hL (hS.grow hL)]
  exact ⟨rfl, rfl⟩
theorem qt_skip {op : Op} (hS : St ds w W n a κ l Φ) (hw : Region.wanted ⟨some d, op, ty, pos, af, g⟩ (yielded ops a.tmps) = false) (hd : Nat.blt d n = true)
    (K : ∀ a, St ds w W n a ((d, undef) :: κ) l Φ → wpQuiet P ops (Later W) QA rest a) : wpQuiet P ops (Later W) QA (⟨some d, op, ty, pos, af, g⟩ :: rest) a := by
  unfold wpQuiet
  rw [if_neg (by rw [hw]; simp)]
  exact K _ (hS.put hd undef)
theorem qt_call {f : FuncId} {args : Array Operand} {vs : List Value} {tys : Array TypeId} (hS : St ds w W n a κ l Φ) (hw : Region.wanted ⟨some d, .call { callee := .value (.func f), args := args, argTypes := tys }, ty, pos, af, g⟩ (yielded ops a.tmps) = true) (hd : Nat.blt d n = true)
    (hf : Enters P f) (hx : evs κ args.toList = some vs) (hc : ∀ W', Below W.heap.size W W' → St ds w W' n a κ l Φ → Ret P f vs W' (fun u _ => u = v))
    (K : ∀ a, St ds w W n a ((d, v) :: κ) l Φ → wpQuiet P ops (Later W) QA rest a) : wpQuiet P ops (Later W) QA (⟨some d, .call { callee := .value (.func f), args := args, argTypes := tys }, ty, pos, af, g⟩ :: rest) a := by
  unfold wpQuiet
  rw [if_pos hw]
  refine ⟨v, fun W' hL => ?_, K _ (hS.put hd v)⟩
  unfold Oper.quietAt
  have h1 : args.map a.eval = vs.toArray := by rw [← hS.evs hx, ← Array.toList_map]
  have h2 := hf vs.toArray W'
  have h3 : (execOp a.eval ⟨some d, .call { callee := .value (.func f), args := args, argTypes := tys }, ty, pos, af, g⟩).run P W' = .ok (.enter f vs.toArray) W' := by
    simp only [execOp, resolve, Act.eval, Deferred.ofValue]
    simp [invoke, h1, h2]
  rw [h3]
  refine ⟨rfl, Calls.mono (hc W' hL (hS.grow hL)) fun e W2 => ?_⟩
  rintro ⟨u, rfl, hb, rfl⟩
  exact ⟨rfl, Below.trans hL (hb.mono hL.size)⟩
theorem qt_nil (hS : St ds w W n a κ l Φ) (K : ∀ W', St ds w W' n a κ l Φ → Q .normal a W') : wpQuiet P ops (Later W) (fun a' => ∀ W', Later W W' → Q .normal a' W') [] a := fun W' hL => K W' (hS.grow hL)

/-! ### ways -/
variable {A B : Code} {K' : Act → World → Prop} {id : Nat}
theorem wl_nil (h : Q .normal a W) : wpListIn (Fw r) m P ops Q [] a W := h
theorem q_then (h : K' a W) : Exit.then K' Q .normal a W := h
theorem q_then_x {e : Exit} (he : e ≠ .normal) (h : Q e a W) : Exit.then K' Q e a W := by cases e <;> first | exact h | exact absurd rfl he
theorem q_ret (h : Q .ret a W) : Exit.then K' Q .ret a W := h
theorem q_block (h : Q .normal a W) : Exit.inBlock id Q .normal a W := h
theorem q_block_in (h : Q .normal a W) : Exit.inBlock id Q (.exit id) a W := by simpa [Exit.inBlock] using h
theorem q_block_out {i : Nat} (hi : Nat.beq i id = false) (h : Q (.exit i) a W) : Exit.inBlock id Q (.exit i) a W := by
  have : i ≠ id := Nat.ne_of_beq_eq_false hi
  simpa [Exit.inBlock, this] using h
theorem q_block_ret (h : Q .ret a W) : Exit.inBlock id Q .ret a W := h
theorem st_cond_t (hS : St ds w W n a κ l Φ) (hc : ev κ c = some (.bool true)) (h : A.wpIn (Fw r) m P Q a W) : (Code.cond c A B).wpIn (Fw r) m P Q a W := wpIn_cond (hS.ev hc) h
theorem st_cond_f (hS : St ds w W n a κ l Φ) (hc : ev κ c = some (.bool false)) (h : B.wpIn (Fw r) m P Q a W) : (Code.cond c A B).wpIn (Fw r) m P Q a W := wpIn_cond (hS.ev hc) h
theorem st_cond {b : Bool} (hS : St ds w W n a κ l Φ) (hc : ev κ c = some (.bool b)) (ht : b = true → A.wpIn (Fw r) m P Q a W) (hf : b = false → B.wpIn (Fw r) m P Q a W) : (Code.cond c A B).wpIn (Fw r) m P Q a W := wpIn_cond_split (hS.ev hc) ht hf
theorem exists_min (p : Nat → Prop) (h : ∃ k, p k) : ∃ k, p k ∧ ∀ j, p j → k ≤ j := by
  obtain ⟨k, hk⟩ := h
  induction k using Nat.strongRecOn with
  | _ k ih =>
    by_cases hc : ∃ j, j < k ∧ p j
    · obtain ⟨j, hj, hp⟩ := hc
      exact ih j hj hp
    · exact ⟨k, hk, fun j hj => Nat.le_of_not_lt (fun hlt => hc ⟨j, hlt, hj⟩)⟩
/-- A loop: its state at each round's head by a parameter. -/
theorem st_loop {α : Type} (κI : α → KV) (lI : α → List Blk) (ΦI : World → Prop) (φ : α → Prop) (μ : α → Nat) (x0 : α) (hS : St ds w W n a (κI x0) (lI x0) ΦI) (h0 : φ x0)
    (body : ∀ x W a, φ x → St ds w W n a (κI x) (lI x) ΦI → A.wpIn (Fw r) m P (Exit.then (fun a' W' => ∃ x', (φ x' ∧ μ x' < μ x) ∧ St ds w W' n a' (κI x') (lI x') ΦI) Q) a W) : (Code.loop A).wpIn (Fw r) m P Q a W := by
  classical
  have mn : ∀ a W, (∃ k x, φ x ∧ St ds w W n a (κI x) (lI x) ΦI ∧ μ x = k) → _ := fun a W h => exists_min (fun k => ∃ x, φ x ∧ St ds w W n a (κI x) (lI x) ΦI ∧ μ x = k) h
  refine wpIn_loop (fun a W => ∃ x, φ x ∧ St ds w W n a (κI x) (lI x) ΦI) (fun a W => if h : ∃ k x, φ x ∧ St ds w W n a (κI x) (lI x) ΦI ∧ μ x = k then Classical.choose (mn a W h) else 0) ⟨x0, h0, hS⟩ ?_
  rintro a W ⟨x, hφ, hS⟩
  have hex : ∃ k x, φ x ∧ St ds w W n a (κI x) (lI x) ΦI ∧ μ x = k := ⟨_, x, hφ, hS, rfl⟩
  obtain ⟨⟨x1, hφ1, hS1, hμ1⟩, _⟩ := Classical.choose_spec (mn a W hex)
  refine wpIn_mono (body x1 W a hφ1 hS1) ?_
  intro e a' W' hq
  cases e with
  | normal =>
    obtain ⟨x', ⟨hφ', hlt⟩, hS'⟩ := hq
    refine ⟨⟨x', hφ', hS'⟩, ?_⟩
    have hex' : ∃ k x, φ x ∧ St ds w W' n a' (κI x) (lI x) ΦI ∧ μ x = k := ⟨_, x', hφ', hS', rfl⟩
    simp only [hex, hex', dif_pos]
    exact Nat.lt_of_le_of_lt ((Classical.choose_spec (mn a' W' hex')).2 _ ⟨x', hφ', hS', rfl⟩) (by rw [← hμ1]; exact hlt)
  | exit => exact hq
  | goto => exact hq
  | ret => exact hq
  | panic => exact hq
  | outgrown => exact hq

/-- A loop: what changes by a parameter, what stays, one's own blocks by the parameter. -/
theorem st_loop2 {α : Type} (κv : α → KV) (κ0 : KV) (lf : List Blk → α → List Blk) (φ : α → Prop) (μ : α → Nat) (x0 : α) (hS : St ds w W n a κ l Φ) (hκ : Sub (κv x0 ++ κ0) κ) (hl : lf l x0 = l) (h0 : φ x0)
    (body : ∀ x W a, φ x → St ds w W n a (κv x ++ κ0) (lf l x) Φ → A.wpIn (Fw r) m P (Exit.then (fun a' W' => ∃ x', (φ x' ∧ μ x' < μ x) ∧ St ds w W' n a' (κv x' ++ κ0) (lf l x') Φ) Q) a W) : (Code.loop A).wpIn (Fw r) m P Q a W :=
  st_loop (fun x => κv x ++ κ0) (lf l) Φ φ μ x0 (by rw [hl]; exact hS.sub hκ) h0 body

/-! ### a function's begin and end -/
theorem lk_enum : ∀ (vs : List Value) (k t : Nat) (v : Value), lk (enumFrom k vs) t = some v → k ≤ t ∧ vs[t - k]? = some v
  | [], _, _, _, h => by simp [enumFrom, lk] at h
  | u :: us, k, t, v, h => by
    rcases lk_put h with ⟨rfl, rfl⟩ | ⟨hne, h⟩
    · simp
    · obtain ⟨h1, h2⟩ := lk_enum us (k + 1) t v h
      refine ⟨by omega, ?_⟩
      rw [show t - k = (t - (k + 1)) + 1 by omega]
      simpa using h2
theorem ret_start {f : FuncId} {fn : Func} {cd : Code} {args : List Value} {R : Value → World → Prop} (hf : P.funcs[f]? = some fn) (hb : fn.body = some cd) (hn : fn.ntmps = n) (hk : Nat.ble args.length n = true)
    (h : ∀ a, St [] w w n a (enumFrom 0 args) [] (fun _ => True) → cd.wpIn (Fw none) 2 P (bodyPost P fn fun e W' => ∃ v, e = .returned v ∧ Below w.heap.size w W' ∧ R v W') a w) : Ret P f args w R := by
  refine callsIn_wide.1 (callsIn_of_wp (F := Fence.wide) (n := 2) hf hb trivial ?_)
  refine h _ ⟨?_, ⟨rfl, fun D hD => (by cases hD)⟩, ?_, Below.refl _ _, fun b hb => (by cases hb), fun b hb => (by cases hb), List.Pairwise.nil, fun _ _ _ => trivial⟩
  · have := Nat.ble_eq.mp hk
    simp [hn]; omega
  · intro t v ht
    obtain ⟨_, h2⟩ := lk_enum args 0 t v ht
    have h3 : t < args.length := by
      rcases Nat.lt_or_ge t args.length with h | h
      · exact h
      · rw [List.getElem?_eq_none (by omega)] at h2; cases h2
    simp only [Array.getD_eq_getD_getElem?]
    rw [Array.getElem?_append_left (by simpa using h3)]
    simp only [List.getElem?_toArray]
    rw [Nat.sub_zero] at h2
    rw [h2]; rfl

/-- One result's value. -/
def rv (tmps : Array Value) : ResultVar → Sem Value
  | .tmp t => pure (tmps.getD t undef)
  | .cell a t => do loadVar t (← asAddr (tmps.getD a undef))
theorem rv_tmp {t : Nat} (hS : St ds w W n a κ l Φ) (h : lk κ t = some v) : (rv a.tmps (.tmp t)).run P W = .ok v W := by
  simp [rv, hS.get t v h]
theorem rv_one {t i b : Nat} {E : TypeId} (hT : ∀ w, (isAgg T).run P w = .ok false w) (hS : St ds w W n a κ l Φ) (h : lk κ t = some (.pointer (some ⟨b, 0, none⟩))) (hB : nthB l i = some ⟨b, [v], E⟩) : (rv a.tmps (.cell t T)).run P W = .ok v W := by
  have hc := hS.cell hB (j := 0) (u := v) rfl
  simp [rv, hS.get t _ h, asAddr, loadVar, hT W, load, Sem.run, hc]
theorem rv_agg {t i b k : Nat} {cs : List Value} {E : TypeId} (hT : ∀ w, (isAgg T).run P w = .ok true w) (hk : ∀ w, (sizeOf T).run P w = .ok k w) (hS : St ds w W n a κ l Φ) (h : lk κ t = some (.pointer (some ⟨b, 0, none⟩))) (hB : nthB l i = some ⟨b, cs, E⟩) (hl : Nat.beq cs.length k = true) : (rv a.tmps (.cell t T)).run P W = .ok (.agg cs.toArray) W := by
  have hc := run_loadCells_list (P := P) W ⟨b, 0, none⟩ cs (fun j u hj => by rw [add_off, Nat.zero_add]; exact hS.cell hB hj)
  simp [rv, hS.get t _ h, asAddr, loadVar, hT W, hk W, ← Nat.eq_of_beq_eq_true hl, hc]
theorem res0 {fn : Func} (h : fn.results = #[]) : (results fn a.tmps).run P W = .ok (.tuple #[]) W := by
  simp [results, h]
theorem res1 {fn : Func} {r1 : ResultVar} (h : fn.results = #[r1]) (h1 : (rv a.tmps r1).run P W = .ok v W) : (results fn a.tmps).run P W = .ok v W := by
  cases r1 with
  | tmp t => simpa [results, h, rv] using h1
  | cell t T =>
    simp only [rv] at h1
    simp [results, h]
    simpa using h1
theorem results_eq (fn : Func) (ts : Array Value) : results fn ts = (do let vs ← fn.results.mapM (rv ts); pure (if h : vs.size = 1 then vs[0] else .tuple vs)) := by
  unfold results
  refine congrArg (fun f : ResultVar → Sem Value => (do let vs ← fn.results.mapM f; pure (if h : vs.size = 1 then vs[0] else .tuple vs) : Sem Value)) ?_
  funext r
  cases r <;> rfl
theorem res2 {fn : Func} {r1 r2 : ResultVar} {v1 v2 : Value} (h : fn.results = #[r1, r2]) (h1 : (rv a.tmps r1).run P W = .ok v1 W) (h2 : (rv a.tmps r2).run P W = .ok v2 W) : (results fn a.tmps).run P W = .ok (.tuple #[v1, v2]) W := by
  rw [results_eq, h]
  simp [h1, h2]
theorem res3 {fn : Func} {r1 r2 r3 : ResultVar} {v1 v2 v3 : Value} (h : fn.results = #[r1, r2, r3]) (h1 : (rv a.tmps r1).run P W = .ok v1 W) (h2 : (rv a.tmps r2).run P W = .ok v2 W) (h3 : (rv a.tmps r3).run P W = .ok v3 W) : (results fn a.tmps).run P W = .ok (.tuple #[v1, v2, v3]) W := by
  rw [results_eq, h]
  simp [h1, h2, h3]
theorem St.done {fn : Func} {R : Value → World → Prop} (hS : St [] w W n a κ l Φ) (hr : (results fn a.tmps).run P W = .ok v W) (hR : R v W) : bodyPost P fn (fun e W' => ∃ v, e = .returned v ∧ Below w.heap.size w W' ∧ R v W') .ret a W :=
  ⟨hS.defers.1, v, hr, v, rfl, hS.below, hR⟩
/-- The cells of one's own block in another spelling. -/
theorem setB_self : ∀ {l : List Blk} {i : Nat} {B : Blk}, nthB l i = some B → setB l i B.cs = l
  | [], i, B, h => by simp [nthB] at h
  | C :: l, 0, B, h => by simp only [nthB, Option.some.injEq] at h; subst h; rfl
  | C :: l, i + 1, B, h => by simp only [setB]; rw [setB_self (l := l) (i := i) h]
theorem St.turnBlk {i b : Nat} {cs cs' : List Value} {T : TypeId} (hS : St ds w W n a κ l Φ) (hB : nthB l i = some ⟨b, cs, T⟩) (h : cs = cs') : St ds w W n a κ (setB l i cs') Φ := by
  subst h
  rw [show setB l i cs = l from setB_self hB]; exact hS
end
end Go.Proofs.YtdnodlgebpnfoaaGreat
