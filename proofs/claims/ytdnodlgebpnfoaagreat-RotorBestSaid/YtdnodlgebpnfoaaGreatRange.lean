/- The engine's ranges over functions: the loop, the iterator. -/
import Derived.Test.YtdnodlgebpnfoaaGreatAny
import Derived.RangeFuncLeaves
namespace Go.Proofs.YtdnodlgebpnfoaaGreat
open Go Go.RowKit Go.Shelf Sw

/-- All that lies in cells stays, but for the blocks of S. -/
structure Kp (S : Nat → Prop) (A B : World) : Prop where
  os : B.os = A.os
  tape : B.tape = A.tape
  output : B.output = A.output
  size : A.heap.size ≤ B.heap.size
  cells : ∀ (k : Nat) (o : Obj), A.heap[k]? = some o → o.isCells = true → ¬ S k → B.heap[k]? = some o
theorem Kp.trans {S : Nat → Prop} {A B C : World} (h : Kp S A B) (h' : Kp S B C) : Kp S A C :=
  ⟨h'.os.trans h.os, h'.tape.trans h.tape, h'.output.trans h.output, Nat.le_trans h.size h'.size, fun k o hk ho hn => h'.cells k o (h.cells k o hk ho hn) ho hn⟩
theorem Kp.refl (S : Nat → Prop) (A : World) : Kp S A A := ⟨rfl, rfl, rfl, Nat.le_refl _, fun _ _ h _ _ => h⟩
theorem Kp.below {S : Nat → Prop} {A B : World} (h : Below A.heap.size A B) : Kp S A B :=
  ⟨h.os, h.tape, h.output, h.size, fun k o hk _ _ => by rw [h.block k (Array.getElem?_eq_some_iff.1 hk).1]; exact hk⟩
theorem Kp.grown {S : Nat → Prop} {A B : World} {row : Option Nat} (h : A.grownBy B row) (hr : ∀ r, row = some r → ∃ o : Obj, A.heap[r]? = some o ∧ o.isCells = false) : Kp S A B :=
  ⟨h.os, h.tape, h.output, h.size, fun k o hk hc _ => by
    rw [h.block k (Array.getElem?_eq_some_iff.1 hk).1 (fun e => ?_)]
    · exact hk
    · obtain ⟨o', ho', hc'⟩ := hr k e.symm
      rw [hk] at ho'; cases ho'; rw [hc] at hc'; cases hc'⟩
theorem Kp.cell {S : Nat → Prop} {A B : World} (h : Kp S A B) {p : Addr} {v : Value} (hv : A.cell? p = some v) (hn : ¬ S p.block) : B.cell? p = some v := by
  obtain ⟨o, ho, hc⟩ := cells_of_cell hv
  have := h.cells _ _ ho hc hn
  exact cell_same hv (by rw [this, ho])
theorem Kp.cellsAt {S : Nat → Prop} {A B : World} (h : Kp S A B) {p : Addr} {cs : List Value} (hv : CellsAt A p cs) (hn : ¬ S p.block) : CellsAt B p cs := fun i u hu => h.cell (hv i u hu) (by rw [add_block]; exact hn)
/-- A change that keeps the cells behind these blocks. -/
theorem Sl.keepC {α : Type} {d : Kd α} {F : Nat → Prop} {W W' : World} {s : SV} {xs : List α} (h : Sl d F W s xs) (hR : ∀ x cs, d.R F W x cs → d.R F W' x cs) (hc : ∀ p v, F p.block → W.cell? p = some v → W'.cell? p = some v) : Sl d F W' s xs := by
  refine ⟨h.1, h.2.1, fun j hj => ?_⟩
  obtain ⟨ad, cs, h1, h2, h3, h4⟩ := h.2.2 j hj
  exact ⟨ad, cs, h1, h2, hR _ _ h3, fun i u hu => hc _ _ (by rw [add_block]; exact h2) (h4 i u hu)⟩
theorem Sl.kpInt {F S : Nat → Prop} {W W' : World} {s : SV} {xs : List Int} (h : Sl kInt F W s xs) (hk : Kp S W W') (hn : ∀ k, F k → ¬ S k) : Sl kInt F W' s xs := h.keepC (fun _ _ h => h) fun _ _ hp hv => hk.cell hv (hn _ hp)
theorem Sl.kpSpan {F S : Nat → Prop} {W W' : World} {s : SV} {xs : List Span} (h : Sl kSpan F W s xs) (hk : Kp S W W') (hn : ∀ k, F k → ¬ S k) : Sl kSpan F W' s xs := h.keepC (fun _ _ h => h) fun _ _ hp hv => hk.cell hv (hn _ hp)
theorem Sl.kpRow {F S : Nat → Prop} {W W' : World} {s : SV} {xs : List (List Int)} (h : Sl kRow F W s xs) (hk : Kp S W W') (hn : ∀ k, F k → ¬ S k) : Sl kRow F W' s xs :=
  h.keepC (fun _ _ ⟨s', e, h'⟩ => ⟨s', e, h'.kpInt hk hn⟩) fun _ _ hp hv => hk.cell hv (hn _ hp)
theorem TabR.kp {F S : Nat → Prop} {W W' : World} {V : TV} {t : Tab} (h : TabR F W V t) (hk : Kp S W W') (hn : ∀ k, F k → ¬ S k) : TabR F W' V t := ⟨h.1.kpInt hk hn, h.2.1.kpInt hk hn, h.2.2.kpRow hk hn⟩
/-- What came in lies behind blocks that were there. -/
theorem Sl.deep {α : Type} {d : Kd α} {F : Nat → Prop} {W : World} {s : SV} {xs : List α} (h : Sl d F W s xs) (h0 : 0 < d.sz) : Sl d (fun k => F k ∧ k < W.heap.size) W s xs := by
  refine ⟨h.1, h.2.1, fun j hj => ?_⟩
  obtain ⟨ad, cs, h1, h2, h3, h4⟩ := h.2.2 j hj
  have hl := d.len h3
  have hc := h4 0 (cs[0]'(by omega)) (by simp)
  have hlt := cell_lt hc
  rw [add_block] at hlt
  exact ⟨ad, cs, h1, ⟨h2, hlt⟩, d.wide (fun k hk hlt => ⟨hk, hlt⟩) h3, h4⟩
theorem TabR.deep {F : Nat → Prop} {W : World} {V : TV} {t : Tab} (h : TabR F W V t) : TabR (fun k => F k ∧ k < W.heap.size) W V t := ⟨h.1.deep (by decide), h.2.1.deep (by decide), h.2.2.deep (by decide)⟩
def nums (l : List Blk) (k : Nat) : Prop := ∃ B ∈ l, k = B.b
/-- What a round may do. -/
structure Tr (S : Nat → Prop) (A B : World) : Prop where
  kp : Kp S A B
  other : ∀ (k : Nat) (o : Obj), A.heap[k]? = some o → o.isCells = false → B.heap[k]? = some o

section
variable {P : Program} {r : Option Nat} {m : Nat} {ops : Array Oper} {Q : Exit → Act → World → Prop} {rest : List Oper} {o : Oper}
  {ds : List Nat} {w W W' : World} {n d : Nat} {a : Act} {κ : KV} {l l1 l2 : List Blk} {Φ : World → Prop} {x y c : Operand} {v u : Value} {ty T T2 E : TypeId} {pos : String} {af : Array Edge} {g : Option (Nat × Bool)}

def Fr (n : Nat) (a : Act) (κ : KV) : Prop := a.tmps.size = n ∧ a.defers = [] ∧ ∀ t v, lk κ t = some v → a.tmps.getD t undef = v
structure Ws (w W : World) (l : List Blk) : Prop where
  below : Below w.heap.size w W
  blk : ∀ b ∈ l, W.heap[b.b]? = some (.cells b.cs.toArray b.T (0, 0))
  old : ∀ b ∈ l, w.heap.size ≤ b.b
  dist : l.Pairwise (fun x y => x.b ≠ y.b)
theorem St.ws (h : St ds w W n a κ l Φ) : Ws w W l := ⟨h.below, h.blk, h.old, h.dist⟩
theorem Ws.kp {l : List Blk} (h : Ws w W l) (hb : Below w.heap.size w W') (hc : ∀ (k : Nat) (o : Obj), W.heap[k]? = some o → o.isCells = true → W'.heap[k]? = some o) : Ws w W' l :=
  ⟨hb, fun b hm => hc _ _ (h.blk b hm) rfl, h.old, h.dist⟩
theorem off_tr {l l' : List Blk} (hl : ∀ B ∈ l', ∃ B' ∈ l, B.b = B'.b) (hb : ∀ b ∈ l', ∃ o : Obj, W.heap[b.b]? = some o ∧ o.isCells = true) (h : Off l' W W') (hz : W.heap.size ≤ W'.heap.size) : Tr (nums l) W W' := by
  refine ⟨⟨h.os, h.tape, h.output, hz, fun k o hk hc hn => ?_⟩, fun k o hk hc => ?_⟩
  · rw [h.same k (Array.getElem?_eq_some_iff.1 hk).1 (fun b hm e => hn ?_)]
    · exact hk
    · obtain ⟨B', h1, h2⟩ := hl b hm
      exact ⟨B', h1, by rw [e, h2]⟩
  · rw [h.same k (Array.getElem?_eq_some_iff.1 hk).1 (fun b hm e => ?_)]
    · exact hk
    · obtain ⟨o', h1, h2⟩ := hb b hm
      rw [e, h1] at hk; cases hk; rw [hc] at h2; cases h2
/-- A range over a function whose rounds all end of themselves. -/
theorem st_range {α σ : Type} {gop : Operand} {p : Tmp} {assign body : Code} (hS : St [] w W n a κ l Φ) (h1 : 1 ≤ m) {gf : Nat} {lb : Array Value} (hg : ev κ gop = some (.func (.func gf) #[] lb)) (hf : Enters P gf)
    {enc : α → Value} {Sx : List α → Prop} {N : Nat} (hseq : SeqStopsK Fence.wide (m - 1) P gf lb (fun x => #[enc x]) (Kp (nums l)) Sx (fun _ => True) N W) (hp : Nat.blt p n = true)
    (lf : σ → List Blk) (s0 : σ) (hl0 : lf s0 = l) (hlf : ∀ s, ∀ B ∈ lf s, ∃ B' ∈ l, B.b = B'.b) (φ : List α → σ → Prop) (hφ0 : φ [] s0)
    (ΦI : World → Prop) (hΦ0 : ΦI W) (hcl : ∀ A B, ΦI A → Kp (nums l) A B → ΦI B) (κx : Nat → α → KV) (cx : α → List Value)
    (hassign : ∀ r x W1 a1, St [] W1 W1 n a1 ((p, enc x) :: κ) [] (fun _ => True) → ∀ K : Act → World → Prop, (∀ a2 W2 b, W1.heap.size ≤ b → (∀ t v, lk (κx b x ++ κ) t = some v → a2.tmps.getD t undef = v) → a2.tmps.size = n → a2.defers = [] → Below W1.heap.size W1 W2 → CellsAt W2 ⟨b, 0, none⟩ (cx x) → K a2 W2) →
      assign.wpIn (Fw (some r)) (m - 1 - 1) P (Exit.then K (fun _ _ _ => False)) a1 W1)
    (hbody : ∀ r pre x s W1 a1 b, φ pre s → pre.length < N → St [] w W1 n a1 (κx b x ++ κ) (lf s) (fun W => (ΦI W ∧ Tr (nums l) W1 W) ∧ CellsAt W ⟨b, 0, none⟩ (cx x)) →
      body.wpIn (Fw (some r)) (m - 1 - 1) P (fun e a' W' => e = .normal ∧ ∃ s' κ' le, φ (pre ++ [x]) s' ∧ St [] w W' n a' κ' (le ++ lf s') (fun W => (ΦI W ∧ Tr (nums l) W1 W) ∧ CellsAt W ⟨b, 0, none⟩ (cx x))) a1 W1)
    (hend : ∀ D xs s W2 a2, Sx xs → φ xs s → St [D] w W2 n a2 κ (lf s) ΦI → Q .normal a2 W2) : (Code.rangeFunc gop #[p] assign body).wpIn (Fw none) m P Q a W := by
  have hwW := hS.below.size
  have hΦ1 : ∀ A B, ΦI A → Below A.heap.size A B → ΦI B := fun A B h hb => hcl A B h (Kp.below hb)
  let I : List α → World → Prop := fun pre W1 => ∃ s, φ pre s ∧ Ws w W1 (lf s) ∧ ΦI W1 ∧ W.heap.size ≤ W1.heap.size
  let Ax : α → Act → World → Prop := fun x a' W1 => ∃ b, Fr n a' (κx b x ++ κ) ∧ CellsAt W1 ⟨b, 0, none⟩ (cx x) ∧ W.heap.size ≤ b
  have hI : OwnFrom W.heap.size I := by
    rintro pre A B row ⟨s, h2, h3, h4, h5⟩ hgr hrow
    refine ⟨s, h2, ⟨⟨hgr.os.trans h3.below.os, hgr.tape.trans h3.below.tape, hgr.output.trans h3.below.output, Nat.le_trans h3.below.size hgr.size, fun k hk => ?_⟩, fun b hm => ?_, h3.old, h3.dist⟩, hcl _ _ h4 (Kp.grown hgr fun r e => (hrow r e).2), Nat.le_trans h5 hgr.size⟩
    · rw [hgr.block k (Nat.lt_of_lt_of_le hk h3.below.size) (fun e => ?_), h3.below.block k hk]
      have := (hrow k e.symm).1; omega
    · exact (Kp.grown (S := fun _ => False) hgr fun r e => (hrow r e).2).cells _ _ (h3.blk b hm) rfl (fun h => h)
  have hAx : ∀ x a', OwnFrom W.heap.size (fun (_ : Unit) W1 => Ax x a' W1) := by
    rintro x a' _ A B row ⟨b, h2, h3, h4⟩ hgr hrow
    exact ⟨b, h2, (Kp.grown (S := fun _ => False) hgr fun r e => (hrow r e).2).cellsAt h3 (fun h => h), h4⟩
  refine wpIn_rangeFunc_ownH (F := Fw none) rfl h1 (hS.ev hg) trivial hf hseq Kp.trans ?_ (Below.refl _ _) (fun _ => rfl) I (fun _ _ _ => False) hI (fun _ _ _ _ _ h => h.elim) ⟨s0, hφ0, by rw [hl0]; exact hS.ws, hΦ0, Nat.le_refl _⟩ Ax hAx ?_ ?_ ?_ ?_
  · intro A k o o' hk ho hc _
    exact Kp.grown (grownBy_putObj' A k o') (fun r e => by cases e; exact ⟨o, ho, hc⟩)
  · rintro r pre x W1 K ⟨s, h2, h3, h4, h5⟩ hK
    refine hassign r x W1 _ ?_ K ?_
    · have hsz : (a.tmps.setIfInBounds p (enc x)).size = n := by simpa using hS.size
      refine ⟨by simpa using hS.size, ⟨rfl, fun D hD => by cases hD⟩, ?_, Below.refl _ _, fun b hb => (by cases hb), fun b hb => (by cases hb), List.Pairwise.nil, fun _ _ _ => trivial⟩
      have := (hS.put hp (enc x)).get
      intro t v ht
      simpa [Act.put] using this t v ht
    · intro a2 W2 b hb hf2 hz2 hd2 hbl hca
      refine hK a2 W2 ?_ (Kp.below hbl) ⟨s, h2, ⟨h3.below.trans (hbl.mono h3.below.size), fun B hB => ?_, h3.old, h3.dist⟩, hΦ1 _ _ h4 hbl, Nat.le_trans h5 hbl.size⟩ ⟨b, ⟨hz2, hd2, hf2⟩, hca, ?_⟩
      · exact ⟨hbl.size, fun k o _ hk _ => by rw [hbl.block k (Array.getElem?_eq_some_iff.1 hk).1]; exact hk⟩
      · rw [hbl.block _ (Array.getElem?_eq_some_iff.1 (h3.blk B hB)).1]; exact h3.blk B hB
      · exact Nat.le_trans h5 hb
  · rintro r pre x a' W1 hr _ ⟨s, h2, h3, h4, h5'⟩ ⟨b, hfr, hca, hWb⟩ hN
    have hnb : ∀ B ∈ lf s, B.b ≠ b := fun B hB e => by
      obtain ⟨B', hB', e'⟩ := hlf s B hB
      have := hS.lt hB'
      omega
    refine wpIn_mono (hbody r pre x s W1 a' b h2 hN ⟨hfr.1, ⟨hfr.2.1, fun D hD => by cases hD⟩, hfr.2.2, h3.below, h3.blk, h3.old, h3.dist, fun W2 ho hz => ?_⟩) ?_
    · have htr := off_tr (hlf s) (fun b hb => ⟨_, h3.blk b hb, rfl⟩) ho hz
      refine ⟨⟨hcl _ _ h4 htr.kp, htr⟩, htr.kp.cellsAt hca fun hn => ?_⟩
      obtain ⟨B', hB', e'⟩ := hn
      have := hS.lt hB'
      have : b = B'.b := e'
      omega
    · rintro e a2 W2 ⟨rfl, s', κ', le, h5, h6⟩
      have hnow := h6.now
      refine ⟨⟨hnow.1.2.kp.size, fun k o _ hk ho => hnow.1.2.other k o hk ho⟩, hnow.1.2.kp, s', h5, (h6.drop (List.sublist_append_right _ _)).ws, hnow.1.1, Nat.le_trans h5' hnow.1.2.kp.size⟩
  · rintro D xs W2 hD hx ⟨s, h2, h3, h4, _⟩ hk
    refine hend D xs s W2 _ hx h2 ⟨hS.size, ⟨by rw [hS.defers.1]; rfl, fun D' hD' => ?_⟩, hS.get, h3.below, h3.blk, h3.old, h3.dist, fun W3 ho hz => ?_⟩
    · rw [List.mem_singleton.1 hD']; exact ⟨by omega, hk⟩
    · exact hcl _ _ h4 (off_tr (hlf s) (fun b hb => ⟨_, h3.blk b hb, rfl⟩) ho hz).kp
  · rintro D c pre W2 _ _ hf _
    exact hf.elim

/-! ### the iterator -/
theorem St.rebase (hS : St [] w W n a κ [] Φ) : St [] W W n a κ [] Φ :=
  ⟨hS.size, ⟨hS.defers.1, fun D hD => by cases hD⟩, hS.get, Below.refl _ _, fun b hb => (by cases hb), fun b hb => (by cases hb), List.Pairwise.nil, hS.fact⟩
theorem abides_off {α : Type} {J : List α → World → Prop} {B : Nat} (hJ : AbidesFrom B J) {pre : List α} (h : J pre W) : ∀ W', Off [] W W' → W.heap.size ≤ W'.heap.size → J pre W' := fun W' ho hz =>
  hJ pre W W' none h ⟨ho.os, ho.tape, ho.output, hz, fun k hk _ => ho.same k hk (fun b hb => by cases hb)⟩ (fun r e => by cases e)
/-- What a round answers to the iterator. -/
def Yd {α : Type} (P : Program) (l : Nat) (enc : α → Value) (S : Nat → Prop) (J Jx : List α → World → Prop) (N : Nat) : Prop :=
  ∀ m pre x W1, J pre W1 → pre.length < N → YieldAt Fence.wide m P l #[enc x] W1 fun e W' =>
    (e = .returned (.bool true) ∧ J (pre ++ [x]) W' ∧ Kp S W1 W') ∨ (e = .returned (.bool false) ∧ Jx (pre ++ [x]) W')
theorem roundIn_wide {m m' : Nat} {l f : Nat} {tmps : Array Value} {A B : Code} {R : Ending → World → Prop} (h : RoundIn Fence.wide m P l f tmps A B W R) : RoundIn Fence.wide m' P l f tmps A B W R :=
  ⟨h.1, fun c cs _ => h.2 c cs (by simp [Fence.room, Fence.wide])⟩
theorem it_start {α : Type} {f : FuncId} {fn : Func} {cd : Code} {caps : List Value} {enc : α → Value} {S : Nat → Prop} {Sx : List α → Prop} {N nn : Nat} {Mem : World → Prop} (hf : P.funcs[f]? = some fn) (hb : fn.body = some cd) (hn : fn.ntmps = n) (hk : Nat.ble (caps.length + 1) n = true)
    (hM : ∀ A B, Mem A → Kp S A B → Mem B) (h0 : Mem w)
    (h : ∀ (i : Nat) (J Jx : List α → World → Prop) (W : World) (a : Act), (∀ pre A B, J pre A → Off [] A B → A.heap.size ≤ B.heap.size → J pre B) → (∀ pre A B, Jx pre A → Off [] A B → A.heap.size ≤ B.heap.size → Jx pre B) → Yd P i enc S J Jx N →
      St [] W W n a (enumFrom 0 (.func (.yield i) #[] #[] :: caps)) [] (fun W' => J [] W' ∧ Mem W') →
      cd.wpIn (Fw none) 2 P (bodyPost P fn fun e W' => (∃ v, e = .returned v) ∧ ((∃ xs, Sx xs ∧ J xs W') ∨ (∃ pre, True ∧ Jx pre W'))) a W) :
    SeqStopsK Fence.wide nn P f caps.toArray (fun x => #[enc x]) (Kp S) Sx (fun _ => True) N w := by
  intro i J Jx W hbl hJ hJx hY hJ0
  have hwide : Calls P f (#[.func (.yield i) #[] #[]] ++ caps.toArray) W (fun e W' => (∃ v, e = .returned v) ∧ ((∃ xs, Sx xs ∧ J xs W') ∨ (∃ pre, True ∧ Jx pre W'))) := by
    refine callsIn_wide.1 (callsIn_of_wp (F := Fence.wide) (n := 2) hf hb trivial ?_)
    have hM0 : Mem W := hM _ _ h0 ⟨hbl.os, hbl.tape, hbl.output, hbl.size, fun k o hk' _ _ => by rw [hbl.block k (Array.getElem?_eq_some_iff.1 hk').1]; exact hk'⟩
    have ab : ∀ {J : List α → World → Prop}, AbidesFrom W.heap.size J → ∀ pre A B, J pre A → Off [] A B → A.heap.size ≤ B.heap.size → J pre B := fun hJ pre A B h ho hz => abides_off hJ h B ho hz
    refine h i J Jx W _ (ab hJ) (ab hJx) (fun m' pre x W1 h1 h2 => ?_) ⟨?_, ⟨rfl, fun D hD => by cases hD⟩, ?_, Below.refl _ _, fun b hb => (by cases hb), fun b hb => (by cases hb), List.Pairwise.nil, fun W' ho hz => ⟨abides_off hJ hJ0 W' ho hz, hM _ _ hM0 ?_⟩⟩
    · obtain ⟨fn', tm, A, B, h3, h4⟩ := hY pre x W1 h1 h2
      exact ⟨fn', tm, A, B, h3, roundIn_wide h4⟩
    · have := Nat.ble_eq.mp hk
      simp [hn]; omega
    · intro t v ht
      obtain ⟨_, h2⟩ := lk_enum (.func (.yield i) #[] #[] :: caps) 0 t v ht
      have h3 : t < (Value.func (.yield i) #[] #[] :: caps).length := by
        rcases Nat.lt_or_ge t (Value.func (.yield i) #[] #[] :: caps).length with h | h
        · exact h
        · rw [List.getElem?_eq_none (by omega)] at h2; cases h2
      simp only [Array.getD_eq_getD_getElem?]
      rw [Array.getElem?_append_left (by simp at h3 ⊢; omega)]
      rw [Nat.sub_zero] at h2
      have e : (#[Value.func (.yield i) #[] #[]] ++ caps.toArray : Array Value) = (Value.func (.yield i) #[] #[] :: caps).toArray := by simp
      rw [e, List.getElem?_toArray, h2]; rfl
    · exact ⟨ho.os, ho.tape, ho.output, hz, fun k o hk' _ _ => by rw [ho.same k (Array.getElem?_eq_some_iff.1 hk').1 (fun b hb => by cases hb)]; exact hk'⟩
  exact callsIn_wide.2 hwide
/-- The iterator calls the round. -/
theorem st_yield {α : Type} {i N : Nat} {t : Tmp} {args : Array Operand} {enc : α → Value} {S : Nat → Prop} {J Jx : List α → World → Prop} {Ψ : World → Prop} {pre : List α} {z : α} {tys : Array TypeId} (hS : St [] w W n a κ [] Φ) (hΦ : ∀ W, Φ W → J pre W ∧ Ψ W)
    (hJ : ∀ pre A B, J pre A → Off [] A B → A.heap.size ≤ B.heap.size → J pre B) (hJx : ∀ pre A B, Jx pre A → Off [] A B → A.heap.size ≤ B.heap.size → Jx pre B) (hcl : ∀ A B, Ψ A → Kp S A B → Ψ B) (hY : Yd P i enc S J Jx N) (hN : pre.length < N)
    (hw : Region.wanted ⟨some d, .call { callee := .value (.tmp t), args := args, argTypes := tys }, ty, pos, af, g⟩ (yielded ops a.tmps) = true) (hd : Nat.blt d n = true)
    (ht : lk κ t = some (.func (.yield i) #[] #[])) (hx : evs κ args.toList = some [enc z])
    (K : ∀ W' a, St [] W' W' n a ((d, .bool true) :: κ) [] (fun W => J (pre ++ [z]) W ∧ Ψ W) → wpListIn (Fw r) m P ops Q rest a W')
    (Kx : ∀ W' a, St [] W' W' n a ((d, .bool false) :: κ) [] (fun W => Jx (pre ++ [z]) W) → wpListIn (Fw r) m P ops Q rest a W') :
    wpListIn (Fw r) m P ops Q (⟨some d, .call { callee := .value (.tmp t), args := args, argTypes := tys }, ty, pos, af, g⟩ :: rest) a W := by
  obtain ⟨fn, tm, A, B, h1, h2⟩ := hY (m - 1) pre z W (hΦ _ hS.now).1 hN
  have h3 : args.map a.eval = #[enc z] := by
    have := hS.evs hx
    rw [← Array.toList_map] at this
    exact congrArg List.toArray this
  have h4 : a.eval (.tmp t) = .func (.yield i) #[] #[] := hS.ev ht
  have hrun : (execOp a.eval ⟨some d, .call { callee := .value (.tmp t), args := args, argTypes := tys }, ty, pos, af, g⟩).run P W = .ok (.round i fn tm A B) W := by
    simp only [execOp, resolve, h4, Deferred.ofValue]
    simp [invoke, h3, h1]
  unfold wpListIn
  rw [if_pos hw]
  refine ⟨fun _ _ => trivial, ?_⟩
  rw [Oper.semAt_eq _ _ _ (by simp), hrun]
  have hkp : ∀ {A B : World}, Off [] A B → A.heap.size ≤ B.heap.size → Kp S A B := fun ho hz => ⟨ho.os, ho.tape, ho.output, hz, fun k o hk' _ _ => by rw [ho.same k (Array.getElem?_eq_some_iff.1 hk').1 (fun b hb => by cases hb)]; exact hk'⟩
  have key : ∀ (e : Ending) (W' : World), ((e = .returned (.bool true) ∧ J (pre ++ [z]) W' ∧ Kp S W W') ∨ (e = .returned (.bool false) ∧ Jx (pre ++ [z]) W')) → (match e with
      | .returned v => wpListIn (Fw r) m P ops Q rest (a.put (some d) v) W'
      | .panicked chain => Q (.panic chain) a W'
      | .outgrown => LetsOut Q) := by
    rintro e W' (⟨rfl, h5, h6⟩ | ⟨rfl, h5⟩)
    · refine K W' _ ?_
      have hp := hS.put hd (.bool true)
      exact ⟨hp.size, ⟨hp.defers.1, fun D hD => by cases hD⟩, hp.get, Below.refl _ _, fun b hb => (by cases hb), fun b hb => (by cases hb), List.Pairwise.nil, fun W2 ho hz => ⟨hJ _ _ _ h5 ho hz, hcl _ _ (hcl _ _ (hΦ _ hS.now).2 h6) (hkp ho hz)⟩⟩
    · refine Kx W' _ ?_
      have hp := hS.put hd (.bool false)
      exact ⟨hp.size, ⟨hp.defers.1, fun D hD => by cases hD⟩, hp.get, Below.refl _ _, fun b hb => (by cases hb), fun b hb => (by cases hb), List.Pairwise.nil, fun W2 ho hz => hJx _ _ _ h5 ho hz⟩
  cases r with
  | none => exact ⟨fun h => by simp [Fw] at h, RoundIn.mono h2 (fun e W' he => by have := key e W' he; cases e <;> exact this)⟩
  | some r0 => exact ⟨fun h => by simp [Fw] at h, RoundIn.mono (show RoundIn (Fw (some r0)) (m - 1) P i fn tm A B W _ from h2) (fun e W' he => by have := key e W' he; cases e <;> exact this)⟩
variable {A : Code}
theorem st_loopI {α β : Type} {J : List β → World → Prop} {Ψ : World → Prop} {pre0 : List β} (κv : α → KV) (κ0 : KV) (seq : α → List β) (φ : α → Prop) (μ : α → Nat) (x0 : α) (hS : St [] w W n a κ [] Φ) (hκ : Sub (κv x0 ++ κ0) κ) (h0 : φ x0) (e0 : pre0 = seq x0) (hΦ0 : ∀ W, Φ W → J pre0 W ∧ Ψ W)
    (body : ∀ x W a, φ x → St [] W W n a (κv x ++ κ0) [] (fun W => J (seq x) W ∧ Ψ W) → A.wpIn (Fw r) m P (Exit.then (fun a' W' => ∃ x', (φ x' ∧ μ x' < μ x) ∧ St [] W' W' n a' (κv x' ++ κ0) [] (fun W => J (seq x') W ∧ Ψ W)) Q) a W) : (Code.loop A).wpIn (Fw r) m P Q a W := by
  classical
  subst e0
  obtain ⟨ΦI, hΦI⟩ : ∃ ΦI : α → World → Prop, ΦI = fun x W => J (seq x) W ∧ Ψ W := ⟨_, rfl⟩
  have hΦ0 : ∀ W, Φ W → ΦI x0 W := by rw [hΦI]; exact hΦ0
  have body : ∀ x W a, φ x → St [] W W n a (κv x ++ κ0) [] (ΦI x) → A.wpIn (Fw r) m P (Exit.then (fun a' W' => ∃ x', (φ x' ∧ μ x' < μ x) ∧ St [] W' W' n a' (κv x' ++ κ0) [] (ΦI x')) Q) a W := by rw [hΦI]; exact body
  have mn : ∀ a W, (∃ k x, φ x ∧ St [] W W n a (κv x ++ κ0) [] (ΦI x) ∧ μ x = k) → _ := fun a W h => exists_min (fun k => ∃ x, φ x ∧ St [] W W n a (κv x ++ κ0) [] (ΦI x) ∧ μ x = k) h
  refine wpIn_loop (fun a W => ∃ x, φ x ∧ St [] W W n a (κv x ++ κ0) [] (ΦI x)) (fun a W => if h : ∃ k x, φ x ∧ St [] W W n a (κv x ++ κ0) [] (ΦI x) ∧ μ x = k then Classical.choose (mn a W h) else 0) ⟨x0, h0, ((hS.sub hκ).less hΦ0).rebase⟩ ?_
  rintro a W ⟨x, hφ, hS⟩
  have hex : ∃ k x, φ x ∧ St [] W W n a (κv x ++ κ0) [] (ΦI x) ∧ μ x = k := ⟨_, x, hφ, hS, rfl⟩
  obtain ⟨⟨x1, hφ1, hS1, hμ1⟩, _⟩ := Classical.choose_spec (mn a W hex)
  refine wpIn_mono (body x1 W a hφ1 hS1) ?_
  intro e a' W' hq
  cases e with
  | normal =>
    obtain ⟨x', ⟨hφ', hlt⟩, hS'⟩ := hq
    refine ⟨⟨x', hφ', hS'⟩, ?_⟩
    have hex' : ∃ k x, φ x ∧ St [] W' W' n a' (κv x ++ κ0) [] (ΦI x) ∧ μ x = k := ⟨_, x', hφ', hS', rfl⟩
    simp only [hex, hex', dif_pos]
    exact Nat.lt_of_le_of_lt ((Classical.choose_spec (mn a' W' hex')).2 _ ⟨x', hφ', hS', rfl⟩) (by rw [← hμ1]; exact hlt)
  | exit => exact hq
  | goto => exact hq
  | ret => exact hq
  | panic => exact hq
  | outgrown => exact hq
theorem St.doneI {fn : Func} {R : Ending → World → Prop} (hS : St [] w W n a κ l Φ) (hr : (results fn a.tmps).run P W = .ok v W) (hR : R (.returned v) W) : bodyPost P fn R .ret a W := ⟨hS.defers.1, v, hr, hR⟩
theorem St.doneIn {fn : Func} {R : Ending → World → Prop} (hS : St [] w W n a κ l Φ) (hr : (results fn a.tmps).run P W = .ok v W) (hR : R (.returned v) W) : bodyPost P fn R .normal a W := ⟨hS.defers.1, v, hr, hR⟩
/-- A function's end behind a range over a function. -/
theorem St.doneM {fn : Func} {D mm : Nat} {R : Value → World → Prop} (hS : St [D] w W n a κ l Φ) (hr : ∀ W' a', a'.tmps = a.tmps → St [] w W' n a' κ l (fun _ => True) → (results fn a'.tmps).run P W' = .ok v W')
    (hR : ∀ W', Kp (fun _ => False) W W' → W'.heap.size = W.heap.size → R v W') : bodyPostM (Fw none) mm P fn (fun e W' => ∃ v, e = .returned v ∧ Below w.heap.size w W' ∧ R v W') .ret a W := by
  obtain ⟨h1, h2⟩ := hS.defers
  obtain ⟨h3, h4⟩ := h2 D (by simp)
  have hk : Kp (fun _ => False) W (W.putObj D (.deferred none)) := Kp.grown (grownBy_putObj' W D _) (fun r e => by cases e; exact ⟨_, h4, rfl⟩)
  have hb : Below w.heap.size w (W.putObj D (.deferred none)) := hS.below.trans ⟨rfl, rfl, rfl, hk.size, fun k hk' => by rw [World.putObj_heap_other (by omega)]⟩
  have hS' : St [] w (W.putObj D (.deferred none)) n { a with defers := [] } κ l (fun _ => True) := ⟨hS.size, ⟨rfl, fun D hD => by cases hD⟩, hS.get, hb, fun b hm => hk.cells _ _ (hS.blk b hm) rfl (fun h => h), hS.old, hS.dist, fun _ _ _ => trivial⟩
  show LeavesInM (Fw none) mm P fn a.tmps _ a.defers .returning W
  rw [h1]
  exact ⟨by simp, .inl ⟨D, _, rfl, run_takeDeferred h4, v, hr _ { a with defers := [] } rfl hS', v, rfl, hb, hR _ hk (by simp [World.putObj])⟩⟩
theorem ret_startM {f : FuncId} {fn : Func} {cd : Code} {args : List Value} {R : Value → World → Prop} (hf : P.funcs[f]? = some fn) (hb : fn.body = some cd) (hn : fn.ntmps = n) (hk : Nat.ble args.length n = true)
    (h : ∀ a, St [] w w n a (enumFrom 0 args) [] (fun _ => True) → cd.wpIn (Fw none) 2 P (bodyPostM (Fw none) 2 P fn fun e W' => ∃ v, e = .returned v ∧ Below w.heap.size w W' ∧ R v W') a w) : Ret P f args w R := by
  refine callsIn_wide.1 (callsIn_of_wp_marks (F := Fence.wide) (n := 2) hf hb trivial ?_)
  refine h _ ⟨?_, ⟨rfl, fun D hD => (by cases hD)⟩, ?_, Below.refl _ _, fun b hb => (by cases hb), fun b hb => (by cases hb), List.Pairwise.nil, fun _ _ _ => trivial⟩
  · have := Nat.ble_eq.mp hk
    simp [hn]; omega
  · intro t v ht
    obtain ⟨_, h2⟩ := lk_enum args 0 t v ht
    have h3 : t < args.length := by
      rcases Nat.lt_or_ge t args.length with h | h
      · exact h
      · rw [List.getElem?_eq_none (by omega)] at h2; cases h2
    simp only [Array.getD_eq_getD_getElem?]
    rw [Array.getElem?_append_left (by simpa using h3)]
    simp only [List.getElem?_toArray]
    rw [Nat.sub_zero] at h2
    rw [h2]; rfl
end
end Go.Proofs.YtdnodlgebpnfoaaGreat
