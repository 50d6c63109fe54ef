/- The engine's steps: one lemma for each kind of operation. -/
import Derived.Test.YtdnodlgebpnfoaaGreatEng
namespace Go.Proofs.YtdnodlgebpnfoaaGreat
open Go Go.RowKit Go.Shelf

section
variable {P : Program} {r : Option Nat} {m : Nat} {ops : Array Oper} {Q : Exit → Act → World → Prop} {rest : List Oper} {o : Oper}
  {ds : List Nat} {w W W' : World} {n d : Nat} {a : Act} {κ : KV} {l l1 l2 : List Blk} {Φ : World → Prop} {x y c : Operand} {v u : Value} {ty T T2 : TypeId} {pos : String} {af : Array Edge} {g : Option (Nat × Bool)}

theorem wl_op (hw : Region.wanted o (yielded ops a.tmps) = true) (hdf : ∀ c, o.op ≠ .defer c) (hr : (execOp a.eval o).run P W = .ok (.value v) W')
    (K : wpListIn (Fw r) m P ops Q rest (a.put o.dst v) W') : wpListIn (Fw r) m P ops Q (o :: rest) a W := by
  unfold wpListIn
  rw [if_pos hw]
  refine ⟨fun _ _ => trivial, ?_⟩
  rw [Oper.semAt_eq _ _ _ hdf, hr]
  exact K
theorem wl_unit (hw : Region.wanted o (yielded ops a.tmps) = true) (hdf : ∀ c, o.op ≠ .defer c) (hr : (execOp a.eval o).run P W = .ok .skip W')
    (K : wpListIn (Fw r) m P ops Q rest (a.put o.dst undef) W') : wpListIn (Fw r) m P ops Q (o :: rest) a W := by
  unfold wpListIn
  rw [if_pos hw]
  refine ⟨fun _ _ => trivial, ?_⟩
  rw [Oper.semAt_eq _ _ _ hdf, hr]
  exact K
theorem wl_enter {f : FuncId} {args : Array Value} {R : Ending → World → Prop} (hw : Region.wanted o (yielded ops a.tmps) = true) (hdf : ∀ c, o.op ≠ .defer c)
    (hr : (execOp a.eval o).run P W = .ok (.enter f args) W) (hc : Calls P f args W R)
    (K : ∀ e W', R e W' → ∃ v, e = .returned v ∧ wpListIn (Fw r) m P ops Q rest (a.put o.dst v) W') : wpListIn (Fw r) m P ops Q (o :: rest) a W := by
  unfold wpListIn
  rw [if_pos hw]
  refine ⟨fun _ _ => trivial, ?_⟩
  rw [Oper.semAt_eq _ _ _ hdf, hr]
  refine ⟨fun h => by simp [Fw] at h, ?_⟩
  have h1 : CallsIn Fence.wide (m - 1) P f args W (fun e W' => match e with
    | .returned v => wpListIn (Fw r) m P ops Q rest (a.put o.dst v) W'
    | .panicked chain => Q (.panic chain) a W'
    | .outgrown => LetsOut Q) := callsIn_wide.2 (hc.mono fun e W' he => by
      obtain ⟨v, rfl, h⟩ := K e W' he
      exact h)
  cases r with
  | none => exact CallsIn.mono h1 (fun e W' he => by cases e <;> exact he)
  | some i => exact CallsIn.mono (h1.inRound i) (fun e W' he => by cases e <;> exact he)
theorem wl_skip (hw : Region.wanted o (yielded ops a.tmps) = false) (K : wpListIn (Fw r) m P ops Q rest (a.put o.dst undef) W) : wpListIn (Fw r) m P ops Q (o :: rest) a W := by
  unfold wpListIn
  rw [if_neg (by rw [hw]; simp)]
  exact ⟨fun _ _ => trivial, K⟩

/-! ### guards -/
theorem St.yields (hS : St ds w W n a κ l Φ) {j : Nat} {b : Bool} (hj : (ops[j]?).bind (·.dst) = some d) (hv : lk κ d = some (.bool b)) : yielded ops a.tmps j = some b := by
  have h := hS.get d _ hv
  unfold yielded
  rw [hj]
  simp only [Option.bind_some]
  rw [Array.getD_eq_getD_getElem?] at h
  cases hq : a.tmps[d]? with
  | none => rw [hq] at h; simp [undef] at h
  | some u => rw [hq] at h; simp only [Option.getD_some] at h; rw [h]
theorem St.wanted (hS : St ds w W n a κ l Φ) {j : Nat} {b : Bool} (hg : o.guard = some (j, b)) (hj : (ops[j]?).bind (·.dst) = some d) (hv : lk κ d = some (.bool b)) : Region.wanted o (yielded ops a.tmps) = true := by
  simp [Region.wanted, hg, hS.yields hj hv]
theorem St.unwanted (hS : St ds w W n a κ l Φ) {j : Nat} {b b' : Bool} (hg : o.guard = some (j, b)) (hj : (ops[j]?).bind (·.dst) = some d) (hv : lk κ d = some (.bool b')) (hne : (b' == b) = false) : Region.wanted o (yielded ops a.tmps) = false := by
  simp only [Region.wanted, hg, hS.yields hj hv]
  simpa using hne
theorem St.unwantedU (hS : St ds w W n a κ l Φ) {j : Nat} {b : Bool} (hg : o.guard = some (j, b)) (hj : (ops[j]?).bind (·.dst) = some d) (hv : lk κ d = some undef) : Region.wanted o (yielded ops a.tmps) = false := by
  have h := hS.get d _ hv
  have h2 : yielded ops a.tmps j = none := by
    unfold yielded
    rw [hj]
    simp only [Option.bind_some]
    rw [Array.getD_eq_getD_getElem?] at h
    cases hq : a.tmps[d]? with
    | none => rfl
    | some u => rw [hq] at h; simp only [Option.getD_some] at h; rw [h]; rfl
  simp [Region.wanted, hg, h2]
/-- An operation that is not wanted. -/
theorem st_skip {op : Op} (hS : St ds w W n a κ l Φ) (hw : Region.wanted ⟨some d, op, ty, pos, af, g⟩ (yielded ops a.tmps) = false) (hd : Nat.blt d n = true)
    (K : ∀ a, St ds w W n a ((d, undef) :: κ) l Φ → wpListIn (Fw r) m P ops Q rest a W) : wpListIn (Fw r) m P ops Q (⟨some d, op, ty, pos, af, g⟩ :: rest) a W :=
  wl_skip hw (K _ (hS.put hd undef))
/-- A temporary's bool, told by its value. -/
theorem St.know (hS : St ds w W n a κ l Φ) {b b' : Bool} (hv : lk κ d = some (.bool b)) (hb : b = b') : St ds w W n a ((d, .bool b') :: κ) l Φ := by
  subst hb
  refine ⟨hS.size, hS.defers, fun t u ht => ?_, hS.below, hS.blk, hS.old, hS.dist, hS.fact⟩
  rcases lk_put ht with ⟨rfl, rfl⟩ | ⟨_, hu⟩
  · exact hS.get _ _ hv
  · exact hS.get _ _ hu
theorem st_split {b : Bool} {G : Prop} (hS : St ds w W n a κ l Φ) (hv : lk κ d = some (.bool b)) (ht : b = true → St ds w W n a ((d, .bool true) :: κ) l Φ → G) (hf : b = false → St ds w W n a ((d, .bool false) :: κ) l Φ → G) : G := by
  cases b
  · exact hf rfl (hS.know hv rfl)
  · exact ht rfl (hS.know hv rfl)
/-- A temporary's value in another spelling. -/
theorem St.turn (hS : St ds w W n a κ l Φ) {v v' : Value} (hv : lk κ d = some v) (hb : v = v') : St ds w W n a ((d, v') :: κ) l Φ := by
  subst hb
  refine ⟨hS.size, hS.defers, fun t u ht => ?_, hS.below, hS.blk, hS.old, hS.dist, hS.fact⟩
  rcases lk_put ht with ⟨rfl, rfl⟩ | ⟨_, hu⟩
  · exact hS.get _ _ hv
  · exact hS.get _ _ hu

theorem St.turnI (hS : St ds w W n a κ l Φ) {k : IntKind} {p q : Int} (hv : lk κ d = some (.int k p)) (hb : p = q) : St ds w W n a ((d, .int k q) :: κ) l Φ := hS.turn hv (by rw [hb])
theorem St.turnB (hS : St ds w W n a κ l Φ) {p q : Bool} (hv : lk κ d = some (.bool p)) (hb : p = q) : St ds w W n a ((d, .bool q) :: κ) l Φ := hS.turn hv (by rw [hb])

/-! ### values -/
/-- An operation that yields a value and leaves the world. -/
theorem st_v {op : Op} (hS : St ds w W n a κ l Φ) (hw : Region.wanted ⟨some d, op, ty, pos, af, g⟩ (yielded ops a.tmps) = true) (hd : Nat.blt d n = true)
    (hr : (execOp a.eval ⟨some d, op, ty, pos, af, g⟩).run P W = .ok (.value v) W)
    (K : ∀ a, St ds w W n a ((d, v) :: κ) l Φ → wpListIn (Fw r) m P ops Q rest a W) : wpListIn (Fw r) m P ops Q (⟨some d, op, ty, pos, af, g⟩ :: rest) a W := by
  refine wl_op hw ?_ hr (K _ (hS.put hd v))
  rintro c hc
  rw [show op = .defer c from hc] at hr
  simp only [execOp, Sem.run_bind] at hr
  cases hq : (resolve a.eval c ty).run P W with
  | ok x w' => rw [hq] at hr; simp at hr
  | halt x w' => rw [hq] at hr; simp at hr

def Oat (op : Op) (d : Nat) (ty : TypeId) (pos : String) (af : Array Edge) (g : Option (Nat × Bool)) : Oper := ⟨some d, op, ty, pos, af, g⟩
theorem run_move (hS : St ds w W n a κ l Φ) (hx : ev κ x = some v) : (execOp a.eval ⟨some d, .move x, ty, pos, af, g⟩).run P W = .ok (.value v) W := by simp only [execOp, hS.ev hx]; rfl
theorem run_assign (hS : St ds w W n a κ l Φ) (hx : ev κ x = some v) : (execOp a.eval ⟨some d, .assign x, ty, pos, af, g⟩).run P W = .ok (.value v) W := by simp only [execOp, hS.ev hx]; rfl
theorem run_pick_t (hS : St ds w W n a κ l Φ) (hc : ev κ c = some (.bool true)) (hx : ev κ x = some v) : (execOp a.eval ⟨some d, .pick c x y, ty, pos, af, g⟩).run P W = .ok (.value v) W := by simp only [execOp, hS.ev hx, hS.ev hc]; rfl
theorem run_pick_f (hS : St ds w W n a κ l Φ) (hc : ev κ c = some (.bool false)) (hy : ev κ y = some v) : (execOp a.eval ⟨some d, .pick c x y, ty, pos, af, g⟩).run P W = .ok (.value v) W := by simp only [execOp, hS.ev hy, hS.ev hc]; rfl
theorem run_pick {b : Bool} (hS : St ds w W n a κ l Φ) (hc : ev κ c = some (.bool b)) (hx : ev κ x = some v) (hy : ev κ y = some u) : (execOp a.eval ⟨some d, .pick c x y, ty, pos, af, g⟩).run P W = .ok (.value (if b then v else u)) W := by
  simp only [execOp, hS.ev hx, hS.ev hy, hS.ev hc]; rfl

/-- Two whole numbers of a kind under an operator. -/
def bin (op : BinOp) (k : IntKind) (p q : Int) : Option Value := match op with
  | .add => some (.int k (k.wrap (p + q)))
  | .sub => some (.int k (k.wrap (p - q)))
  | .mul => some (.int k (k.wrap (p * q)))
  | .eql => some (.bool (p == q))
  | .neq => some (.bool (p != q))
  | .lss => some (.bool (decide (p < q)))
  | .leq => some (.bool (decide (p ≤ q)))
  | .gtr => some (.bool (decide (p > q)))
  | .geq => some (.bool (decide (p ≥ q)))
  | _ => none
theorem runs_bin {op : BinOp} {k : IntKind} {p q : Int} (h : bin op k p q = some v) (T : TypeId) (x y : Operand) :
    (do eqGuard op T x y (.int k p) (.int k q); binOp op T (.int k p) (.int k q) : Sem Value).run P W = .ok v W := by
  cases op <;> simp only [bin, Option.some.injEq, reduceCtorEq] at h <;> subst h <;> simp [eqGuard, binOp, Op.intArith, Op.intCmp]
theorem run_bin {op : BinOp} {k : IntKind} {p q : Int} (hS : St ds w W n a κ l Φ) (hx : ev κ x = some (.int k p)) (hy : ev κ y = some (.int k q)) (hv : bin op k p q = some v) : (execOp a.eval ⟨some d, .binOp op T x y T2, ty, pos, af, g⟩).run P W = .ok (.value v) W := by
  have h := runs_bin (P := P) (W := W) hv T x y
  simp only [execOp, hS.ev hx, hS.ev hy]
  rw [Sem.run_bind, h]
  rfl
/-- A division whose divisor is not 0. -/
theorem run_quo {k : IntKind} {p q : Int} (hS : St ds w W n a κ l Φ) (hx : ev κ x = some (.int k p)) (hy : ev κ y = some (.int k q)) (hq : q ≠ 0) : (execOp a.eval ⟨some d, .binOp .quo T x y T2, ty, pos, af, g⟩).run P W = .ok (.value (.int k (k.wrap (p.tdiv q)))) W := by
  simp [execOp, hS.ev hx, hS.ev hy, eqGuard, binOp, Op.intDiv, hq]
theorem run_rem {k : IntKind} {p q : Int} (hS : St ds w W n a κ l Φ) (hx : ev κ x = some (.int k p)) (hy : ev κ y = some (.int k q)) (hq : q ≠ 0) : (execOp a.eval ⟨some d, .binOp .rem T x y T2, ty, pos, af, g⟩).run P W = .ok (.value (.int k (p.tmod q))) W := by
  simp [execOp, hS.ev hx, hS.ev hy, eqGuard, binOp, Op.intDiv, hq]
/-- Any other test of two values, told apart. -/
theorem run_test {op : BinOp} (hS : St ds w W n a κ l Φ) {vx vy : Value} (hx : ev κ x = some vx) (hy : ev κ y = some vy) (hv : ∀ W, (do eqGuard op T x y vx vy; binOp op T vx vy : Sem Value).run P W = .ok v W) : (execOp a.eval ⟨some d, .binOp op T x y T2, ty, pos, af, g⟩).run P W = .ok (.value v) W := by
  have h := hv W
  simp only [execOp, hS.ev hx, hS.ev hy]
  rw [Sem.run_bind, h]
  rfl
theorem run_not {b : Bool} (hS : St ds w W n a κ l Φ) (hx : ev κ x = some (.bool b)) : (execOp a.eval ⟨some d, .unOp .not T x, ty, pos, af, g⟩).run P W = .ok (.value (.bool (!b))) W := by simp only [execOp, hS.ev hx]; rfl
theorem run_neg {k : IntKind} {p : Int} (hS : St ds w W n a κ l Φ) (hx : ev κ x = some (.int k p)) : (execOp a.eval ⟨some d, .unOp .neg T x, ty, pos, af, g⟩).run P W = .ok (.value (.int k (k.wrap (0 - p)))) W := by simp only [execOp, hS.ev hx]; rfl
theorem run_extract {vs : Array Value} {i : Nat} (hS : St ds w W n a κ l Φ) (hx : ev κ x = some (.tuple vs)) (hv : vs[i]? = some v) : (execOp a.eval ⟨some d, .extract x i, ty, pos, af, g⟩).run P W = .ok (.value v) W := by simp [execOp, hS.ev hx, Instr.extract, hv]
theorem run_nilCheck {p : Addr} (hS : St ds w W n a κ l Φ) (hx : ev κ x = some (.pointer (some p))) : (execOp a.eval ⟨some d, .nilCheck x, ty, pos, af, g⟩).run P W = .ok (.value (.pointer (some p))) W := by simp only [execOp, hS.ev hx]; rfl
theorem run_makeFunc {fn : Fn} {fi cap : Array Operand} {vf vc : List Value} (hS : St ds w W n a κ l Φ) (hf : evs κ fi.toList = some vf) (hc : evs κ cap.toList = some vc) : (execOp a.eval ⟨some d, .makeFunc fn fi cap, ty, pos, af, g⟩).run P W = .ok (.value (.func fn vf.toArray vc.toArray)) W := by
  have h1 : fi.map a.eval = vf.toArray := by rw [← hS.evs hf, ← Array.toList_map]
  have h2 : cap.map a.eval = vc.toArray := by rw [← hS.evs hc, ← Array.toList_map]
  simp only [execOp, h1, h2]
  rfl

/-! ### built-ins that yield a number -/
theorem run_len_slice {A : Option Addr} {k cp : Nat} {E : TypeId} (hT : P.underlying T = some (.slice E)) (hS : St ds w W n a κ l Φ) (hx : ev κ x = some (.slice A k cp)) : (execOp a.eval ⟨some d, .call { callee := .builtin .len, args := #[x], argTypes := #[T] }, ty, pos, af, g⟩).run P W = .ok (.value (.int .i64 (k : Int))) W := by
  simp [execOp, resolve, invoke, builtin, hS.ev hx, Builtin.len_, run_underlying hT, goInt]
def min2 (p q : Int) : Int := if q < p then q else p
def max2 (p q : Int) : Int := if q > p then q else p
theorem run_min {k : IntKind} {p q : Int} {tys : Array TypeId} (hS : St ds w W n a κ l Φ) (hx : ev κ x = some (.int k p)) (hy : ev κ y = some (.int k q)) : (execOp a.eval ⟨some d, .call { callee := .builtin .min, args := #[x, y], argTypes := tys }, ty, pos, af, g⟩).run P W = .ok (.value (.int k (min2 p q))) W := by
  simp [execOp, resolve, invoke, builtin, hS.ev hx, hS.ev hy, Builtin.min_, Builtin.min2, min2]
theorem run_max {k : IntKind} {p q : Int} {tys : Array TypeId} (hS : St ds w W n a κ l Φ) (hx : ev κ x = some (.int k p)) (hy : ev κ y = some (.int k q)) : (execOp a.eval ⟨some d, .call { callee := .builtin .max, args := #[x, y], argTypes := tys }, ty, pos, af, g⟩).run P W = .ok (.value (.int k (max2 p q))) W := by
  simp [execOp, resolve, invoke, builtin, hS.ev hx, hS.ev hy, Builtin.max_, Builtin.max2, max2]
end
end Go.Proofs.YtdnodlgebpnfoaaGreat
