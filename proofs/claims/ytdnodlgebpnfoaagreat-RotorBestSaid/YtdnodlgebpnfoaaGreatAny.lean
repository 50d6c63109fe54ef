/- The engine's regions that draw their order, order by order. -/
import Derived.Test.YtdnodlgebpnfoaaGreatApp
namespace Go.Proofs.YtdnodlgebpnfoaaGreat
open Go Go.RowKit Go.Shelf Sw

section
variable {P : Program} {r : Option Nat} {m : Nat} {ops : Array Oper} {Q : Exit → Act → World → Prop}
  {ds : List Nat} {w W : World} {n : Nat} {a : Act} {κ : KV} {l : List Blk} {Φ : World → Prop}
theorem later_drawn (W : World) : Below W.heap.size W { W with drawn := W.drawn + 1 } := ⟨rfl, rfl, rfl, Nat.le_refl _, fun _ _ => rfl⟩
theorem wpIn_unthen {o : Oper} {K K' : Act → World → Prop} (h : o.wpIn (Fw r) m P a W K (Exit.then K' Q)) : o.wpIn (Fw r) m P a W K Q := by
  unfold Oper.wpIn at *
  refine ⟨h.1, ?_⟩
  have hh := h.2
  generalize (o.semAt (Fw r).round a.eval).run P W = x at *
  cases x with
  | ok x w' =>
    cases x <;> simp only [Oper.uponIn] at hh ⊢ <;>
      first
        | exact hh
        | exact ⟨hh.1, CallsIn.mono hh.2 (fun e w'' he => by cases e <;> exact he)⟩
        | exact ⟨hh.1, RoundIn.mono hh.2 (fun e w'' he => by cases e <;> exact he)⟩
  | halt x w' => cases x <;> simp only [Oper.uponIn] at hh ⊢ <;> exact hh
def AnyL (P : Program) (r : Option Nat) (m : Nat) (ops : Array Oper) (Q : Exit → Act → World → Prop) (fuel : Nat) (listed : Array Bool) (a : Act) (W : World) : List Nat → Prop
  | [] => True
  | i :: is => (∃ o, ops[i]? = some o ∧ wpListIn (Fw r) m P ops (Exit.then (wpAnyIn (Fw r) m P .any ops Q fuel (listed.setIfInBounds i true)) Q) [o] a W) ∧ AnyL P r m ops Q fuel listed a W is
theorem any_go {rs : List Nat} {fuel : Nat} {listed : Array Bool} (hr : Region.ready .any ops listed = rs) (hne : rs ≠ []) (h : AnyL P r m ops Q fuel listed a W rs) : wpAnyIn (Fw r) m P .any ops Q (fuel + 1) listed a W := by
  refine wpAnyIn_all hr hne fun i hi => ?_
  have key : ∀ l : List Nat, AnyL P r m ops Q fuel listed a W l → i ∈ l → ∃ o, ops[i]? = some o ∧ wpListIn (Fw r) m P ops (Exit.then (wpAnyIn (Fw r) m P .any ops Q fuel (listed.setIfInBounds i true)) Q) [o] a W := by
    intro l
    induction l with
    | nil => intro _ h; cases h
    | cons j l ih =>
      intro h hm
      rcases List.mem_cons.1 hm with rfl | hm
      · exact h.1
      · exact ih h.2 hm
  obtain ⟨o, ho, hw⟩ := key rs h hi
  unfold wpOpIn
  rw [ho]
  unfold wpListIn at hw
  dsimp only
  by_cases hc : Region.wanted o (yielded ops a.tmps) = true
  · rw [if_pos hc] at hw ⊢
    exact wpIn_unthen hw
  · rw [if_neg hc] at hw ⊢
    exact hw
end

/-! ### what only looks is taken first -/
/-- The part of a state that is the world's. -/
structure Wl (ds : List Nat) (w : World) (l : List Blk) (Φ : World → Prop) (W : World) : Prop where
  marks : ∀ D ∈ ds, w.heap.size ≤ D ∧ W.heap[D]? = some (.deferred (some []))
  below : Below w.heap.size w W
  blk : ∀ b ∈ l, W.heap[b.b]? = some (.cells b.cs.toArray b.T (0, 0))
  old : ∀ b ∈ l, w.heap.size ≤ b.b
  dist : l.Pairwise (fun x y => x.b ≠ y.b)
  fact : ∀ W', Off l W W' → W.heap.size ≤ W'.heap.size → Φ W'
section
variable {P : Program} {m : Nat} {ops : Array Oper} {Q : Exit → Act → World → Prop}
  {ds : List Nat} {w W : World} {n : Nat} {a : Act} {κ : KV} {l lS : List Blk} {Φ Ψ : World → Prop} {S : World → Prop}
theorem St.wl (h : St ds w W n a κ l Φ) (hs : lS.Sublist l) : Wl ds w lS Φ W :=
  have h' := h.drop hs
  ⟨h'.defers.2, h'.below, h'.blk, h'.old, h'.dist, h'.fact⟩
theorem Wl.st {W' : World} (h : St ds w W n a κ l Φ) (h' : Wl ds w lS Ψ W') : St ds w W' n a κ lS Ψ :=
  ⟨h.size, ⟨h.defers.1, h'.marks⟩, h.get, h'.below, h'.blk, h'.old, h'.dist, h'.fact⟩
theorem Wl.less {W : World} (h : Wl ds w l Φ W) (hp : ∀ W, Φ W → Ψ W) : Wl ds w l Ψ W := ⟨h.marks, h.below, h.blk, h.old, h.dist, fun W' ho hz => hp _ (h.fact W' ho hz)⟩
def keepB : List Bool → List Blk → List Blk
  | b :: bs, B :: l => bif b then B :: keepB bs l else keepB bs l
  | _, _ => []
theorem keepB_sub : ∀ (bs : List Bool) (l : List Blk), (keepB bs l).Sublist l
  | [], [] => List.Sublist.slnil
  | [], _ :: _ => List.nil_sublist _
  | _ :: _, [] => List.Sublist.slnil
  | true :: bs, B :: l => (keepB_sub bs l).cons_cons B
  | false :: bs, B :: l => (keepB_sub bs l).cons B
def YIf (P : Program) (ops : Array Oper) (S : World → Prop) (o : Oper) (v : Value) (a : Act) : Prop :=
  Region.wanted o (yielded ops a.tmps) = true ∧ ∀ w, S w → (execOp a.eval o).run P w = .ok (.value v) w
def AnyH (P : Program) (m : Nat) (ops : Array Oper) (Q : Exit → Act → World → Prop) (S : World → Prop) : Nat → Array Bool → Act → World → Prop
  | 0, listed, a, W => Region.ready .any ops listed = [] ∧ Q .normal a W
  | fuel + 1, listed, a, W => (Region.ready .any ops listed = [] → Q .normal a W) ∧
    ∀ i ∈ Region.ready .any ops listed, wpOpIn (Fw none) m P ops Q i (fun a' W' => S W' ∧ AnyH P m ops Q S fuel (listed.setIfInBounds i true) a' W') a W
theorem anyH_sound : ∀ (fuel : Nat) (listed : Array Bool) (a : Act) (W : World), AnyH P m ops Q S fuel listed a W → wpAnyIn (Fw none) m P .any ops Q fuel listed a W
  | 0, _, _, _, h => h
  | fuel + 1, _, _, _, h => ⟨h.1, fun i hi => wpOpIn_mono (fun a' w' h' => anyH_sound fuel _ a' w' h'.2) (h.2 i hi)⟩
theorem wpOpIn_putIf {j : Nat} {oi oj : Oper} {v : Value} (hj : ops[j]? = some oj) (hap : oi.apart ops oj = true)
    (hsi : ∀ cs b, oi.op ≠ .select cs b) (hsj : ∀ cs b, oj.op ≠ .select cs b)
    (hQ : ∀ c a w, Q (.panic c) (a.put oi.dst v) w → Q (.panic c) a w) {K : Act → World → Prop} {a : Act} {w : World}
    (hy : YIf P ops S oi v a) (h : wpOpIn (Fw none) m P ops Q j K (a.put oi.dst v) w) :
    wpOpIn (Fw none) m P ops Q j (fun a' w' => YIf P ops S oi v a' ∧ K (a'.put oi.dst v) w') a w := by
  obtain ⟨h1, h2, h3⟩ := Oper.apart_spec hap
  have keep : ∀ (a : Act), YIf P ops S oi v a → ∀ u, YIf P ops S oi v (a.put oj.dst u) := fun a hy u => by
    unfold YIf at *
    rw [execOp_put oi hsi a oj.dst u h3, wanted_put oi a oj.dst u h3]; exact hy
  have keepD : ∀ d, YIf P ops S oi v { a with defers := d :: a.defers } := fun d => hy
  unfold wpOpIn at *
  simp only [hj] at *
  rw [wanted_put oj a oi.dst v h1, about_put oj w a oi.dst v h1] at h
  split
  · rename_i hw
    simp only [hw, if_true] at h
    unfold Oper.wpIn at *
    rw [about_put oj w a oi.dst v h1] at h
    refine ⟨h.1, ?_⟩
    have h := h.2
    rw [show (Fw none).round = none from rfl, Oper.semAt_none, execOp_put oj hsj a oi.dst v h1] at h
    rw [show (Fw none).round = none from rfl, Oper.semAt_none]
    generalize (execOp a.eval oj).run P w = r at *
    cases r with
    | ok x w' =>
      cases x <;> simp only [Oper.uponIn] at h ⊢
      case value u => exact ⟨keep a hy u, by rw [← Act.put_comm a v u h2]; exact h⟩
      case skip => exact ⟨keep a hy _, by rw [← Act.put_comm a v undef h2]; exact h⟩
      case defer d =>
        refine ⟨keep _ (keepD d) _, ?_⟩
        rw [← Act.put_comm _ v undef h2, ← Act.put_defers]
        exact h
      case enter f args =>
        refine ⟨h.1, CallsIn.mono h.2 fun e w'' he => ?_⟩
        cases e with
        | returned u => exact ⟨keep a hy u, by rw [← Act.put_comm a v u h2]; exact he⟩
        | panicked c => exact hQ _ _ _ he
        | outgrown => exact he
      case row row args => exact ⟨h.1, RowsIn.mono h.2 fun u w'' he => ⟨keep a hy u, by rw [← Act.put_comm a v u h2]; exact he⟩⟩
      case round l f tmps assign body =>
        refine ⟨h.1, RoundIn.mono h.2 fun e w'' he => ?_⟩
        cases e with
        | returned u => exact ⟨keep a hy u, by rw [← Act.put_comm a v u h2]; exact he⟩
        | panicked c => exact hQ _ _ _ he
        | outgrown => exact he
    | halt x w' =>
      cases x <;> simp only [Oper.uponIn] at h ⊢
      case panic u => exact hQ _ _ _ h
  · rename_i hw
    simp only [hw] at h
    exact ⟨h.1, keep a hy _, by rw [← Act.put_comm a v undef h2]; exact h.2⟩
theorem YIf.wpOpIn {i : Nat} {o : Oper} {v : Value} {a : Act} (hi : ops[i]? = some o) (hy : YIf P ops S o v a)
    {K : Act → World → Prop} {W : World} (hS : S W) (hd : notDefer o = true) (ha : ∀ f, o.about P W a.eval = some f → (Fw none).fn f) (h : K (a.put o.dst v) W) : wpOpIn (Fw none) m P ops Q i K a W := by
  unfold Go.wpOpIn
  simp only [hi]
  rw [if_pos hy.1]
  unfold Oper.wpIn
  rw [show (Fw none).round = none from rfl, Oper.semAt_none, hy.2 W hS]
  exact ⟨ha, h⟩
theorem anyH_first {i : Nat} {oi : Oper} {v : Value} (hi : ops[i]? = some oi) (hsel : ∀ (j : Nat) (o : Oper) cs b, ops[j]? = some o → o.op ≠ .select cs b)
    (hQ : ∀ c a w, Q (.panic c) (a.put oi.dst v) w → Q (.panic c) a w) (hnd : notDefer oi = true) :
    ∀ (fuel : Nat) (listed : Array Bool) (a : Act) (W : World),
      (∀ j oj, ops[j]? = some oj → j ≠ i → listed.getD j true = false → (∀ e ∈ oj.after, Region.binds .any e = true → e.on ≠ i) → oi.apart ops oj = true) →
      i ∈ Region.ready .any ops listed → YIf P ops S oi v a → S W →
      AnyH P m ops Q S fuel (listed.setIfInBounds i true) (a.put oi.dst v) W → AnyH P m ops Q S (fuel + 1) listed a W := by
  have tr : ∀ (o : Oper) (W : World) (a : Act), ∀ f, o.about P W a.eval = some f → (Fw none).fn f := fun _ _ _ _ _ => trivial
  intro fuel
  induction fuel with
  | zero =>
    intro listed a w _ hr hy hS H
    refine ⟨fun h => (by rw [h] at hr; cases hr), fun j hj => ?_⟩
    by_cases hji : j = i
    · subst hji; exact hy.wpOpIn hi hS hnd (tr _ _ _) ⟨hS, H⟩
    · have := ready_mono hj hji
      rw [H.1] at this
      cases this
  | succ fuel ih =>
    intro listed a w hfree hr hy hS H
    refine ⟨fun h => (by rw [h] at hr; cases hr), fun j hj => ?_⟩
    by_cases hji : j = i
    · subst hji; exact hy.wpOpIn hi hS hnd (tr _ _ _) ⟨hS, H⟩
    · have h1 := H.2 j (ready_mono hj hji)
      obtain ⟨hjun, oj, hoj, hall⟩ := mem_ready.1 hj
      have hnot : ∀ e ∈ oj.after, Region.binds .any e = true → e.on ≠ i := fun e he hb heq => by
        have h1 := hall e he hb
        have h0 := (mem_ready.1 hr).1
        rw [heq] at h1
        rcases Nat.lt_or_ge i listed.size with h' | h'
        · simp [h'] at h0 h1; rw [h0] at h1; cases h1
        · simp [Array.getElem?_eq_none h'] at h1
      have h2 := wpOpIn_putIf hoj (hfree j oj hoj hji hjun hnot) (fun cs b => hsel i oi cs b hi) (fun cs b => hsel j oj cs b hoj) hQ hy h1
      have hfree' : ∀ k ok, ops[k]? = some ok → k ≠ i → (listed.setIfInBounds j true).getD k true = false →
          (∀ e ∈ ok.after, Region.binds .any e = true → e.on ≠ i) → oi.apart ops ok = true := fun k ok hk hki hun hno => by
        refine hfree k ok hk hki ?_ hno
        by_cases hjk : j = k
        · subst hjk; exact hjun
        · rw [getD_set_ne true hjk] at hun; exact hun
      refine wpOpIn_mono (fun a' w' h3 => ⟨h3.2.1, ih (listed.setIfInBounds j true) a' w' hfree' (ready_mono hr (Ne.symm hji)) h3.1 h3.2.1 ?_⟩) h2
      rw [Array.setIfInBounds_comm _ _ hji]
      exact h3.2.2
/-- Begin. -/
theorem anyh_start {id : Nat} (hm : P.follows .mixedOrders = true) (mask : List Bool) (hS : St ds w W n a κ l Φ)
    (K : ∀ W, St ds w W n a κ l Φ → AnyH P m ops (fun e a W => e = .normal ∧ Q .normal a W) (Wl ds w (keepB mask l) Φ) ops.size (Array.replicate ops.size false) a W) : (Code.region id ops true).wpIn (Fw none) m P Q a W := by
  refine wpIn_mono (wpIn_region_any hm (anyH_sound _ _ _ _ (K _ (hS.grow (later_drawn W))))) ?_
  rintro e a w ⟨rfl, h⟩; exact h
/-- What only looks comes first. -/
theorem anyh_take {i d fuel : Nat} {listed : Array Bool} {op : Op} {ty : TypeId} {pos : String} {af : Array Edge} {v : Value} (mask : List Bool) (hS : St ds w W n a κ l Ψ) (hp : ∀ W, Ψ W → Φ W) (hl : keepB mask l = lS)
    (hi : ops[i]? = some ⟨some d, op, ty, pos, af, none⟩) (hs : Region.noSelect ops = true) (hf : Region.free .any ops listed i = true) (hr : (Region.ready .any ops listed).contains i = true) (hnd : notDefer ⟨some d, op, ty, pos, af, none⟩ = true) (hd : Nat.blt d n = true)
    (hrun : ∀ W', St ds w W' n a κ lS Φ → (execOp a.eval ⟨some d, op, ty, pos, af, none⟩).run P W' = .ok (.value v) W')
    (K : ∀ a, St ds w W n a ((d, v) :: κ) l Ψ → AnyH P m ops (fun e a W => e = .normal ∧ Q .normal a W) (Wl ds w lS Φ) fuel (listed.setIfInBounds i true) a W) :
    AnyH P m ops (fun e a W => e = .normal ∧ Q .normal a W) (Wl ds w lS Φ) (fuel + 1) listed a W := by
  subst hl
  exact anyH_first hi (Region.noSelect_spec hs) (fun c a w h => by cases h.1) hnd fuel listed a W (Region.free_spec hi hf) (by simpa using hr)
    ⟨by simp [Region.wanted], fun W' hW => hrun W' (hW.st hS)⟩ ((hS.wl (keepB_sub _ _)).less hp) (K _ (hS.put hd v))
def AnyHL (P : Program) (m : Nat) (ops : Array Oper) (Q : Exit → Act → World → Prop) (S : World → Prop) (fuel : Nat) (listed : Array Bool) (a : Act) (W : World) : List Nat → Prop
  | [] => True
  | i :: is => (∃ o, ops[i]? = some o ∧ wpListIn (Fw none) m P ops (Exit.then (fun a' W' => S W' ∧ AnyH P m ops Q S fuel (listed.setIfInBounds i true) a' W') Q) [o] a W) ∧ AnyHL P m ops Q S fuel listed a W is
theorem anyh_go {rs : List Nat} {fuel : Nat} {listed : Array Bool} (hr : Region.ready .any ops listed = rs) (hne : rs ≠ []) (h : AnyHL P m ops Q S fuel listed a W rs) : AnyH P m ops Q S (fuel + 1) listed a W := by
  refine ⟨fun h0 => absurd (hr ▸ h0) hne, fun i hi => ?_⟩
  rw [hr] at hi
  have key : ∀ l : List Nat, AnyHL P m ops Q S fuel listed a W l → i ∈ l → ∃ o, ops[i]? = some o ∧ wpListIn (Fw none) m P ops (Exit.then (fun a' W' => S W' ∧ AnyH P m ops Q S fuel (listed.setIfInBounds i true) a' W') Q) [o] a W := by
    intro l
    induction l with
    | nil => intro _ h; cases h
    | cons j l ih =>
      intro h hm
      rcases List.mem_cons.1 hm with rfl | hm
      · exact h.1
      · exact ih h.2 hm
  obtain ⟨o, ho, hw⟩ := key rs h hi
  unfold wpOpIn
  rw [ho]
  unfold wpListIn at hw
  dsimp only
  by_cases hc : Region.wanted o (yielded ops a.tmps) = true
  · rw [if_pos hc] at hw ⊢
    exact wpIn_unthen hw
  · rw [if_neg hc] at hw ⊢
    exact hw
theorem anyh_next {fuel : Nat} {listed : Array Bool} (mask : List Bool) (hS : St ds w W n a κ l Ψ) (hp : ∀ W, Ψ W → Φ W) (hl : keepB mask l = lS)
    (h : AnyH P m ops (fun e a W => e = .normal ∧ Q .normal a W) (Wl ds w lS Φ) fuel listed a W) :
    Exit.then (fun a' W' => Wl ds w lS Φ W' ∧ AnyH P m ops (fun e a W => e = .normal ∧ Q .normal a W) (Wl ds w lS Φ) fuel listed a' W') (fun e a W => e = .normal ∧ Q .normal a W) .normal a W := by
  subst hl; exact ⟨(hS.wl (keepB_sub _ _)).less hp, h⟩
theorem anyh_done {listed : Array Bool} (hr : Region.ready .any ops listed = []) (h : Q .normal a W) : ∀ fuel, AnyH P m ops (fun e a W => e = .normal ∧ Q .normal a W) S fuel listed a W
  | 0 => ⟨hr, rfl, h⟩
  | _ + 1 => ⟨fun _ => ⟨rfl, h⟩, by rw [hr]; simp⟩
end
end Go.Proofs.YtdnodlgebpnfoaaGreat
