/- What the proof of EngineRates leans on, part 5: plain mathematics, the engine of the walks, the walks. -/
import Derived.Test.YtdnodlgebpnfoaaGreatK4EngineRates
set_option linter.unusedVariables false
set_option linter.unusedSimpArgs false
set_option linter.unnecessarySimpa false
namespace Go.Proofs.YtdnodlgebpnfoaaGreat
open Go Go.RowKit Go.Shelf Sw
structure KX (X : Nat → Prop) (A B : World) : Prop where
  os : B.os = A.os
  tape : B.tape = A.tape
  output : B.output = A.output
  size : A.heap.size ≤ B.heap.size
  same : ∀ k, k < A.heap.size → ¬ X k → B.heap[k]? = A.heap[k]?
def noX : Nat → Prop := fun _ => False
theorem KX.refl (X : Nat → Prop) (A : World) : KX X A A := ⟨rfl, rfl, rfl, Nat.le_refl _, fun _ _ _ => rfl⟩
theorem KX.trans {X : Nat → Prop} {A B C : World} (h : KX X A B) (h' : KX X B C) : KX X A C :=
  ⟨h'.os.trans h.os, h'.tape.trans h.tape, h'.output.trans h.output, Nat.le_trans h.size h'.size, fun k hk hn => (h'.same k (Nat.lt_of_lt_of_le hk h.size) hn).trans (h.same k hk hn)⟩
theorem KX.mono {X Y : Nat → Prop} {A B : World} (h : KX X A B) (hXY : ∀ k, X k → Y k) : KX Y A B := ⟨h.os, h.tape, h.output, h.size, fun k hk hn => h.same k hk fun hx => hn (hXY k hx)⟩
theorem KX.of {X : Nat → Prop} {A B : World} (h : Below A.heap.size A B) : KX X A B := ⟨h.os, h.tape, h.output, h.size, fun k hk _ => h.block k hk⟩
theorem KX.below {A B : World} (h : KX noX A B) : Below A.heap.size A B := ⟨h.os, h.tape, h.output, h.size, fun k hk => h.same k hk (fun h => h)⟩
def RetX (P : Program) (f : FuncId) (args : List Value) (X : Nat → Prop) (W : World) (R : Value → World → Prop) : Prop :=
  Calls P f args.toArray W fun e W' => ∃ v, e = .returned v ∧ KX X W W' ∧ R v W'
theorem RetX.mono {P : Program} {f : FuncId} {args : List Value} {X Y : Nat → Prop} {W : World} {R R' : Value → World → Prop} (h : RetX P f args X W R) (hXY : ∀ k, X k → Y k) (hr : ∀ v W', KX X W W' → R v W' → R' v W') : RetX P f args Y W R' :=
  Calls.mono h fun _ _ ⟨v, e, hb, hR⟩ => ⟨v, e, hb.mono hXY, hr v _ hb hR⟩
theorem Ret.toX {P : Program} {f : FuncId} {args : List Value} {X : Nat → Prop} {W : World} {R : Value → World → Prop} (h : Ret P f args W R) : RetX P f args X W R := Calls.mono h fun _ _ ⟨v, e, hb, hR⟩ => ⟨v, e, KX.of hb, hR⟩
theorem RetX.toRet {P : Program} {f : FuncId} {args : List Value} {W : World} {R : Value → World → Prop} (h : RetX P f args noX W R) : Ret P f args W R := Calls.mono h fun _ _ ⟨v, e, hb, hR⟩ => ⟨v, e, hb.below, hR⟩
def Agree (N : Nat) (A B : World) : Prop := ∀ k, k < N → B.heap[k]? = A.heap[k]?
def Far (X : Nat → Prop) (W W' : World) (Φ : World → Prop) : Prop := ∀ A B : World, Φ A → (∀ k, ¬ X k → B.heap[k]? = A.heap[k]?) → (∀ k, X k → A.heap[k]? = W.heap[k]? ∧ B.heap[k]? = W'.heap[k]?) → B.os = A.os → B.tape = A.tape → B.output = A.output → B.heap.size = A.heap.size → Φ B
theorem Far.true {X : Nat → Prop} {W W' : World} : Far X W W' (fun _ => True) := fun _ _ _ _ _ _ _ _ _ => trivial
theorem Far.and {X : Nat → Prop} {W W' : World} {Φ Ψ : World → Prop} (h : Far X W W' Φ) (h' : Far X W W' Ψ) : Far X W W' (fun W => Φ W ∧ Ψ W) := fun A B ⟨x, y⟩ a b c d e f => ⟨h A B x a b c d e f, h' A B y a b c d e f⟩
section
variable {P : Program} {r : Option Nat} {m : Nat} {ops : Array Oper} {Q : Exit → Act → World → Prop} {rest : List Oper} {o : Oper}
  {ds : List Nat} {w W W' : World} {n d : Nat} {a : Act} {κ : KV} {l l1 l2 : List Blk} {Φ Ψ : World → Prop} {x y c : Operand} {v u : Value} {ty T T2 E : TypeId} {pos : String} {af : Array Edge} {g : Option (Nat × Bool)} {X : Nat → Prop}
theorem St.far (hS : St ds w W n a κ l Φ) (hk : KX X W W') (hX : ∀ k, X k → k < w.heap.size) (hΦ : Far X W W' Φ) :
    ∃ w', w'.heap.size = w.heap.size ∧ KX X w w' ∧ Agree w.heap.size W' w' ∧ St ds w' W' n a κ l Φ := by
  classical
  have hwW := hS.below.size
  have hget : ∀ k, k < w.heap.size → (W'.heap.extract 0 w.heap.size)[k]? = W'.heap[k]? := fun k hk' => by
    rw [Array.getElem?_extract, Nat.sub_zero, Nat.zero_add, if_pos (by have := hk.size; omega)]
  have hsz : (W'.heap.extract 0 w.heap.size).size = w.heap.size := by rw [Array.size_extract]; have := hk.size; omega
  refine ⟨{ w with heap := W'.heap.extract 0 w.heap.size }, hsz, ⟨rfl, rfl, rfl, Nat.le_of_eq hsz.symm, fun k hk' hn => ?_⟩, fun k hk' => hget k hk', ⟨hS.size, ⟨hS.defers.1, fun D hD => ?_⟩, hS.get, ?_, fun b hb => ?_, fun b hb => ?_, hS.dist, fun W2 ho hz => ?_⟩⟩
  · exact (hget k hk').trans ((hk.same k (by omega) hn).trans (hS.below.block k hk'))
  · have h1 := hS.defers.2 D hD
    refine ⟨by rw [hsz]; exact h1.1, ?_⟩
    rw [hk.same D (Array.getElem?_eq_some_iff.1 h1.2).1 (fun hx => by have := hX D hx; omega)]; exact h1.2
  · refine ⟨hk.os.trans hS.below.os, hk.tape.trans hS.below.tape, hk.output.trans hS.below.output, by rw [hsz]; have := hk.size; omega, fun k hk' => ?_⟩
    rw [hsz] at hk'
    exact (hget k hk').symm
  · rw [hk.same b.b (hS.lt hb) (fun hx => by have := hX _ hx; have := hS.old b hb; omega)]; exact hS.blk b hb
  · rw [hsz]; exact hS.old b hb
  · have hA : ∀ k, (W2.heap.mapIdx fun k o => if X k then (W.heap[k]?).getD o else o)[k]? = (W2.heap[k]?).map fun o => if X k then (W.heap[k]?).getD o else o := fun k => by
      rw [Array.getElem?_mapIdx]
    have hW2 := Nat.le_trans hk.size hz
    refine hΦ { W2 with heap := W2.heap.mapIdx fun k o => if X k then (W.heap[k]?).getD o else o } W2 ?_ (fun k hn => ?_) (fun k hx => ⟨?_, ?_⟩) rfl rfl rfl (by simp)
    · refine hS.fact _ ⟨ho.os.trans hk.os, ho.tape.trans hk.tape, ho.output.trans hk.output, fun k hk' hn => ?_⟩ (by simpa using hW2)
      show (W2.heap.mapIdx _)[k]? = _
      rw [hA]
      obtain ⟨o2, h2⟩ : ∃ o2, W2.heap[k]? = some o2 := ⟨_, Array.getElem?_eq_getElem (by omega)⟩
      obtain ⟨o1, h1⟩ : ∃ o1, W.heap[k]? = some o1 := ⟨_, Array.getElem?_eq_getElem hk'⟩
      rw [h2, Option.map_some]
      split
      · rw [h1]; rfl
      · rename_i hge
        rw [← h2, ho.same k (by have := hk.size; omega) hn, hk.same k hk' hge]
    · show _ = (W2.heap.mapIdx _)[k]?
      rw [hA]
      cases W2.heap[k]? with
      | none => rfl
      | some o => simp [hn]
    · show (W2.heap.mapIdx _)[k]? = _
      have hlt := hX k hx
      rw [hA]
      obtain ⟨o2, h2⟩ : ∃ o2, W2.heap[k]? = some o2 := ⟨_, Array.getElem?_eq_getElem (by omega)⟩
      obtain ⟨o1, h1⟩ : ∃ o1, W.heap[k]? = some o1 := ⟨_, Array.getElem?_eq_getElem (by omega)⟩
      rw [h2, h1]; simp [hx]
    · have hlt := hX k hx
      exact ho.same k (by have := hk.size; omega) fun b hb e => by have := hS.old b hb; omega
theorem st_callvX {f : FuncId} {t : Tmp} {args : Array Operand} {vs : List Value} {fi cap : Array Value} {tys : Array TypeId} {R : Value → World → Prop} (hS : St ds w W n a κ l Φ) (ht : lk κ t = some (.func (.func f) fi cap)) (hx : evs κ args.toList = some vs) (hf : Enters P f) (hc : RetX P f (fi.toList ++ vs ++ cap.toList) X W R)
    (hw : Region.wanted ⟨some d, .call { callee := .value (.tmp t), args := args, argTypes := tys }, ty, pos, af, g⟩ (yielded ops a.tmps) = true) (hd : Nat.blt d n = true) (hX : ∀ k, X k → k < w.heap.size) (hΦ : ∀ W', KX X W W' → (∃ v, R v W') → Far X W W' Φ)
    (K : ∀ v W' w' a, R v W' → w'.heap.size = w.heap.size → KX X w w' → Agree w.heap.size W' w' → KX X W W' → (∀ B ∈ l, B.b < W.heap.size) → St ds w' W' n a ((d, v) :: κ) l Φ → wpListIn (Fw r) m P ops Q rest a W') :
    wpListIn (Fw r) m P ops Q (⟨some d, .call { callee := .value (.tmp t), args := args, argTypes := tys }, ty, pos, af, g⟩ :: rest) a W := by
  refine wl_enter (f := f) (args := (fi.toList ++ vs ++ cap.toList).toArray) hw (by simp) ?_ hc ?_
  · have h1 : args.map a.eval = vs.toArray := by rw [← hS.evs hx, ← Array.toList_map]
    have h3 : a.eval (.tmp t) = .func (.func f) fi cap := hS.ev ht
    simp only [execOp, resolve, h3, Deferred.ofValue]
    have h2 := hf (fi ++ (vs.toArray ++ cap)) W
    simp [invoke, h1, h2]
  · rintro e W' ⟨v, rfl, hb, hR⟩
    obtain ⟨w', h1, h2, h3, h4⟩ := hS.far hb hX (hΦ W' hb ⟨v, hR⟩)
    exact ⟨v, rfl, K v W' w' _ hR h1 h2 h3 hb (fun B hB => hS.lt hB) (h4.put hd v)⟩
theorem putObj_kx {b : Nat} (W : World) (o : Obj) : KX (fun k => k = b) W (W.putObj b o) := ⟨rfl, rfl, rfl, by simp [World.putObj], fun k _ hn => World.putObj_heap_other hn⟩
theorem ret_startX {f : FuncId} {fn : Func} {cd : Code} {args : List Value} {R : Value → World → Prop} (hf : P.funcs[f]? = some fn) (hb : fn.body = some cd) (hn : fn.ntmps = n) (hk : Nat.ble args.length n = true)
    (h : ∀ a, St [] w w n a (enumFrom 0 args) [] (fun _ => True) → cd.wpIn (Fw none) 2 P (bodyPostM (Fw none) 2 P fn fun e W' => ∃ v, e = .returned v ∧ KX X w W' ∧ R v W') a w) : RetX P f args X w R := by
  refine callsIn_wide.1 (callsIn_of_wp_marks (F := Fence.wide) (n := 2) hf hb trivial ?_)
  refine h _ ⟨?_, ⟨rfl, fun D hD => (by cases hD)⟩, ?_, Below.refl _ _, fun b hb => (by cases hb), fun b hb => (by cases hb), List.Pairwise.nil, fun _ _ _ => trivial⟩
  · have := Nat.ble_eq.mp hk
    simp [hn]; omega
  · intro t v ht
    obtain ⟨_, h2⟩ := lk_enum args 0 t v ht
    have h3 : t < args.length := by
      rcases Nat.lt_or_ge t args.length with h | h
      · exact h
      · rw [List.getElem?_eq_none (by omega)] at h2; cases h2
    simp only [Array.getD_eq_getD_getElem?]
    rw [Array.getElem?_append_left (by simpa using h3)]
    simp only [List.getElem?_toArray]
    rw [Nat.sub_zero] at h2
    rw [h2]; rfl
theorem leaves_all {fn : Func} {tmps : Array Value} {mm : Nat} {R : Ending → World → Prop} {N : Nat} : ∀ (ds : List Nat) (W : World), ds.Nodup → (∀ D ∈ ds, N ≤ D ∧ W.heap[D]? = some (.deferred (some []))) →
    (∀ W', Kp (fun _ => False) W W' → W'.heap.size = W.heap.size → Agree N W W' → ∃ v, (results fn tmps).run P W' = .ok v W' ∧ R (.returned v) W') → LeavesInM (Fw none) mm P fn tmps R (ds.map mark) .returning W
  | [], W, _, _, h => by
    obtain ⟨v, h1, h2⟩ := h W (Kp.refl _ _) rfl (fun _ _ => rfl)
    exact ⟨v, h1, h2⟩
  | D :: ds, W, hn, hd, h => by
    have hn' := List.nodup_cons.1 hn
    have hD := hd D (by simp)
    refine ⟨by simp, .inl ⟨D, W.putObj D (.deferred none), rfl, run_takeDeferred hD.2, leaves_all ds _ hn'.2 (fun D' hD' => ⟨(hd D' (by simp [hD'])).1, ?_⟩) fun W' hk hz hag => ?_⟩⟩
    · rw [World.putObj_heap_other (fun e => hn'.1 (by rw [← e]; exact hD'))]; exact (hd D' (by simp [hD'])).2
    · have hk0 : Kp (fun _ => False) W (W.putObj D (.deferred none)) := Kp.grown (grownBy_putObj' W D _) (fun r e => by cases e; exact ⟨_, hD.2, rfl⟩)
      exact h W' (hk0.trans hk) (by rw [hz]; simp [World.putObj]) fun k hk' => (hag k hk').trans (World.putObj_heap_other (by have := hD.1; omega))
theorem St.doneX {fn : Func} {mm : Nat} {w0 : World} {R : Value → World → Prop} (hS : St ds w W n a κ l Φ) (hn : ds.Nodup) (hk : KX X w0 w) (hz0 : w.heap.size = w0.heap.size) (hr : ∀ W' a', a'.tmps = a.tmps → St [] w W' n a' κ l (fun _ => True) → (results fn a'.tmps).run P W' = .ok v W')
    (hR : ∀ W', Kp (fun _ => False) W W' → W'.heap.size = W.heap.size → Agree w.heap.size w W' → R v W') : bodyPostM (Fw none) mm P fn (fun e W' => ∃ v, e = .returned v ∧ KX X w0 W' ∧ R v W') .ret a W := by
  show LeavesInM (Fw none) mm P fn a.tmps _ a.defers .returning W
  rw [hS.defers.1]
  refine leaves_all (N := w.heap.size) ds W hn hS.defers.2 fun W' hk' hz hag => ⟨v, ?_, v, rfl, ?_, ?_⟩
  · refine hr W' { a with defers := [] } rfl ⟨hS.size, ⟨rfl, fun D hD => by cases hD⟩, hS.get, ?_, fun b hm => hk'.cells _ _ (hS.blk b hm) rfl (fun h => h), hS.old, hS.dist, fun _ _ _ => trivial⟩
    exact hS.below.trans ⟨hk'.os, hk'.tape, hk'.output, Nat.le_of_eq hz.symm, fun k hk2 => hag k hk2⟩
  · refine hk.trans ⟨hk'.os.trans hS.below.os, hk'.tape.trans hS.below.tape, hk'.output.trans hS.below.output, by rw [hz]; exact hS.below.size, fun k hk2 _ => (hag k hk2).trans (hS.below.block k hk2)⟩
  · exact hR W' hk' hz fun k hk2 => (hag k hk2).trans (hS.below.block k hk2)
variable {A B : Code}
theorem st_loopB {α : Type} (dI : α → List Nat) (wI : α → World) (κI : α → KV) (lI : α → List Blk) (ΦI : α → World → Prop) (φ : α → Prop) (μ : α → Nat) (x0 : α) (hS : St (dI x0) (wI x0) W n a (κI x0) (lI x0) (ΦI x0)) (h0 : φ x0)
    (body : ∀ x W a, φ x → St (dI x) (wI x) W n a (κI x) (lI x) (ΦI x) → A.wpIn (Fw r) m P (Exit.then (fun a' W' => ∃ x', (φ x' ∧ μ x' < μ x) ∧ St (dI x') (wI x') W' n a' (κI x') (lI x') (ΦI x')) Q) a W) : (Code.loop A).wpIn (Fw r) m P Q a W := by
  classical
  have mn : ∀ a W, (∃ k x, φ x ∧ St (dI x) (wI x) W n a (κI x) (lI x) (ΦI x) ∧ μ x = k) → _ := fun a W h => exists_min (fun k => ∃ x, φ x ∧ St (dI x) (wI x) W n a (κI x) (lI x) (ΦI x) ∧ μ x = k) h
  refine wpIn_loop (fun a W => ∃ x, φ x ∧ St (dI x) (wI x) W n a (κI x) (lI x) (ΦI x)) (fun a W => if h : ∃ k x, φ x ∧ St (dI x) (wI x) W n a (κI x) (lI x) (ΦI x) ∧ μ x = k then Classical.choose (mn a W h) else 0) ⟨x0, h0, hS⟩ ?_
  rintro a W ⟨x, hφ, hS⟩
  have hex : ∃ k x, φ x ∧ St (dI x) (wI x) W n a (κI x) (lI x) (ΦI x) ∧ μ x = k := ⟨_, x, hφ, hS, rfl⟩
  obtain ⟨⟨x1, hφ1, hS1, hμ1⟩, _⟩ := Classical.choose_spec (mn a W hex)
  refine wpIn_mono (body x1 W a hφ1 hS1) ?_
  intro e a' W' hq
  cases e with
  | normal =>
    obtain ⟨x', ⟨hφ', hlt⟩, hS'⟩ := hq
    refine ⟨⟨x', hφ', hS'⟩, ?_⟩
    have hex' : ∃ k x, φ x ∧ St (dI x) (wI x) W' n a' (κI x) (lI x) (ΦI x) ∧ μ x = k := ⟨_, x', hφ', hS', rfl⟩
    simp only [hex, hex', dif_pos]
    exact Nat.lt_of_le_of_lt ((Classical.choose_spec (mn a' W' hex')).2 _ ⟨x', hφ', hS', rfl⟩) (by rw [← hμ1]; exact hlt)
  | exit => exact hq
  | goto => exact hq
  | ret => exact hq
  | panic => exact hq
  | outgrown => exact hq
end
abbrev poseV (p : Pose) : Value := .agg (poseC p).toArray
abbrev PM := List (Pose × Value)
def MapIs (en : List MapEntry) (es : PM) : Prop := en.map (fun e => (e.key, e.val)) = es.map (fun x => (poseV x.1, x.2))
def MapAt (W : World) (b : Nat) (es : PM) : Prop := ∃ (en : Array MapEntry) (clock : Nat), W.heap[b]? = some (.map en clock) ∧ MapIs en.toList es
theorem MapAt.agree {N b : Nat} {A B : World} {es : PM} (h : MapAt A b es) (hb : b < N) (ha : Agree N A B) : MapAt B b es := by
  obtain ⟨en, c, h1, h2⟩ := h; exact ⟨en, c, by rw [ha b hb]; exact h1, h2⟩
theorem MapAt.lt {A : World} {b : Nat} {es : PM} (h : MapAt A b es) : b < A.heap.size := by
  obtain ⟨en, c, h1, h2⟩ := h; exact (Array.getElem?_eq_some_iff.1 h1).1
theorem MapAt.later {w A : World} {b : Nat} {es : PM} (h : MapAt w b es) (hb : Below w.heap.size w A) : MapAt A b es := by
  have hl := h.lt
  obtain ⟨en, c, h1, h2⟩ := h; exact ⟨en, c, by rw [hb.block b hl]; exact h1, h2⟩
def lkp : PM → Pose → Option Value
  | [], _ => none
  | (q, u) :: es, p => if p = q then some u else lkp es p
def putM : PM → Pose → Value → PM
  | [], p, v => [(p, v)]
  | (q, u) :: es, p, v => if p = q then (q, v) :: es else (q, u) :: putM es p v
def fnd : PM → Pose → Nat → Option (Nat × Value)
  | [], _, _ => none
  | (q, u) :: es, p, i => if p = q then some (i, u) else fnd es p (i + 1)
theorem fnd_lkp (p : Pose) : ∀ (es : PM) (i : Nat), (fnd es p i).map (·.2) = lkp es p
  | [], _ => rfl
  | (q, u) :: es, i => by
    unfold fnd lkp; split
    · rfl
    · exact fnd_lkp p es (i + 1)
theorem run_getMap {P : Program} {W : World} {b : Nat} {en : Array MapEntry} {ck : Nat} (h : W.heap[b]? = some (.map en ck)) : (getObj b).run P W = .ok (.map en ck) W := by simp [getObj, Sem.run, h]
theorem run_setMap {P : Program} {W : World} {b : Nat} {en : Array MapEntry} {ck : Nat} (o : Obj) (h : W.heap[b]? = some (.map en ck)) : (setObj b o).run P W = .ok () (W.putObj b o) := by simp [setObj, Sem.run, h, World.putObj]
structure PKey (P : Program) (K : TypeId) : Prop where
  eq : ∀ (p q : Pose) (W : World), (Op.equal K (poseV p) (poseV q)).run P W = .ok (decide (p = q)) W
  check : ∀ (b : Bool) (p : Pose) (W : World), (Instr.checkKey b 10000 K (poseV p)).run P W = .ok () W
  und : ∃ fs, P.underlying K = some (.struct fs)
theorem run_ask {P : Program} {K : TypeId} (hK : PKey P K) (p : Pose) (W : World) : ∀ (en : List MapEntry) (es : PM) (i : Nat), MapIs en es → (Instr.findAsking K (poseV p) en i).run P W = .ok (fnd es p i) W
  | [], [], i, _ => rfl
  | [], _ :: _, i, h => by simp [MapIs] at h
  | _ :: _, [], i, h => by simp [MapIs] at h
  | e :: en, (q, u) :: es, i, h => by
    simp only [MapIs, List.map_cons, List.cons.injEq, Prod.mk.injEq] at h
    unfold Instr.findAsking fnd
    rw [Sem.run_bind, h.1.1, hK.eq p q W]
    by_cases e1 : p = q
    · simp [e1, h.1.2]
    · simp only [Result.andThen, e1, decide_false, Bool.false_eq_true, if_false]
      exact run_ask hK p W en es (i + 1) h.2
theorem run_find {P : Program} {K : TypeId} (hK : PKey P K) (p : Pose) (W : World) {en : List MapEntry} {es : PM} (h : MapIs en es) : (Instr.findKey K (poseV p) en).run P W = .ok (fnd es p 0) W := by
  obtain ⟨fs, hu⟩ := hK.und
  unfold Instr.findKey
  rw [Sem.run_bind, run_underlying hu]
  simp only [Result.andThen]
  cases en with
  | nil =>
    cases es with
    | nil => rfl
    | cons => simp [MapIs] at h
  | cons e en =>
    have : Instr.findNow (.struct fs) (poseV p) (e :: en) 0 = none := by simp [Instr.findNow, Instr.sameNow]
    rw [this]
    exact run_ask hK p W _ _ 0 h
theorem run_look {P : Program} {K T E : TypeId} (hK : PKey P K) (hT : P.underlying T = some (.map K E)) {W : World} {z : Value} (hz : (zeroValue E).run P W = .ok z W) {b : Nat} {es : PM} (hM : MapAt W b es) (p : Pose) (c : Bool) :
    (Instr.lookup T (.map (some b)) (poseV p) c).run P W = .ok (if c then .tuple #[(lkp es p).getD z, .bool (lkp es p).isSome] else (lkp es p).getD z) W := by
  obtain ⟨en, ck, h1, h2⟩ := hM
  unfold Instr.lookup
  rw [Sem.run_bind, run_underlying hT]
  simp only [Result.andThen, Sem.run_bind, run_getMap h1, Sem.run_pure, hK.check, run_find hK p W h2, ← fnd_lkp p es 0]
  cases fnd es p 0 with
  | none => simp [hz]
  | some r => simp
theorem fnd_ge (p : Pose) : ∀ (es : PM) (i j : Nat) (u : Value), fnd es p i = some (j, u) → i ≤ j
  | [], _, _, _, h => by simp [fnd] at h
  | (q, u') :: es, i, j, u, h => by
    unfold fnd at h; split at h
    · simp only [Option.some.injEq, Prod.mk.injEq] at h; omega
    · have := fnd_ge p es (i + 1) j u h; omega
theorem fnd_key {p : Pose} {v : Value} : ∀ (en : List MapEntry) (es : PM) (i j : Nat) (u : Value), MapIs en es → fnd es p i = some (j, u) → (en[j - i]?.map (·.key)) = some (poseV p) ∧ MapIs (en.modify (j - i) fun e => { e with key := poseV p, val := v }) (putM es p v)
  | [], [], i, j, u, _, h => by simp [fnd] at h
  | [], _ :: _, i, j, u, h, _ => by simp [MapIs] at h
  | _ :: _, [], i, j, u, h, _ => by simp [MapIs] at h
  | e :: en, (q, u') :: es, i, j, u, hm, h => by
    simp only [MapIs, List.map_cons, List.cons.injEq, Prod.mk.injEq] at hm
    unfold fnd at h
    by_cases e1 : p = q
    · subst e1
      rw [if_pos rfl] at h
      simp only [Option.some.injEq, Prod.mk.injEq] at h
      obtain ⟨rfl, rfl⟩ := h
      rw [Nat.sub_self]
      refine ⟨by simp [hm.1.1], ?_⟩
      simp only [MapIs, putM, if_true, List.modify_zero_cons, List.map_cons, hm.2]
    · rw [if_neg e1] at h
      have hge := fnd_ge p es (i + 1) j u h
      obtain ⟨h1, h2⟩ := fnd_key (v := v) en es (i + 1) j u hm.2 h
      have e2 : j - i = (j - (i + 1)) + 1 := by omega
      rw [e2]
      refine ⟨by simpa using h1, ?_⟩
      simp only [MapIs, putM, if_neg e1, List.modify_succ_cons, List.map_cons, hm.1.1, hm.1.2]
      exact congrArg _ h2
theorem fnd_none {p : Pose} {v : Value} {ck : Nat} : ∀ (en : List MapEntry) (es : PM) (i : Nat), MapIs en es → fnd es p i = none → MapIs (en ++ [{ key := poseV p, val := v, born := ck }]) (putM es p v)
  | [], [], i, _, h => rfl
  | [], _ :: _, i, h, _ => by simp [MapIs] at h
  | _ :: _, [], i, h, _ => by simp [MapIs] at h
  | e :: en, (q, u') :: es, i, hm, h => by
    simp only [MapIs, List.map_cons, List.cons.injEq, Prod.mk.injEq] at hm
    unfold fnd at h
    by_cases e1 : p = q
    · rw [if_pos e1] at h; cases h
    · rw [if_neg e1] at h
      have := fnd_none (v := v) (ck := ck) en es (i + 1) hm.2 h
      simp only [MapIs, putM, if_neg e1, List.cons_append, List.map_cons, hm.1.1, hm.1.2]
      exact congrArg _ this
theorem run_put {P : Program} {K T E : TypeId} (hK : PKey P K) (hT : P.underlying T = some (.map K E)) {W : World} {b : Nat} {es : PM} (hM : MapAt W b es) (p : Pose) (v : Value) :
    ∃ en ck en' ck', W.heap[b]? = some (.map en ck) ∧ MapIs en'.toList (putM es p v) ∧ (Instr.mapUpdate T (.map (some b)) (poseV p) v).run P W = .ok () (W.putObj b (.map en' ck')) := by
  obtain ⟨en, ck, h1, h2⟩ := hM
  cases hf : fnd es p 0 with
  | none =>
    refine ⟨en, ck, en.push { key := poseV p, val := v, born := ck }, ck + 1, h1, by rw [Array.toList_push]; exact fnd_none _ _ 0 h2 hf, ?_⟩
    unfold Instr.mapUpdate
    rw [Sem.run_bind, run_underlying hT]
    simp only [Result.andThen, Sem.run_bind, run_getMap h1, hK.check, run_find hK p W h2, hf, run_setMap _ h1]
  | some r =>
    obtain ⟨j, u⟩ := r
    obtain ⟨h3, h4⟩ := fnd_key (v := v) _ _ 0 j u h2 hf
    rw [Nat.sub_zero] at h3 h4
    refine ⟨en, ck, en.modify j fun e => { e with key := poseV p, val := v }, ck, h1, by rw [Array.toList_modify]; exact h4, ?_⟩
    have hk : ((en[j]?).map (·.key)).getD (poseV p) = poseV p := by
      rw [← Array.getElem?_toList, h3]; rfl
    have hs : (Instr.keyThatStays (poseV p) (poseV p)).run P W = .ok (poseV p) W := by
      unfold Instr.keyThatStays
      rw [if_pos (by simp [Instr.sameBits])]; rfl
    unfold Instr.mapUpdate
    rw [Sem.run_bind, run_underlying hT]
    simp only [Result.andThen, Sem.run_bind, run_getMap h1, hK.check, run_find hK p W h2, hf, hk, hs, run_setMap _ h1]
def mapE (E : List Nd) : PM := E.map fun nd => (nd.at_, poseV nd.par)
def lkE (E : List Nd) (q : Pose) : Pose := match E.find? (fun nd => decide (nd.at_ = q)) with | some nd => nd.par | none => poseD
theorem lkp_cons (q' : Pose) (u : Value) (es : PM) (p : Pose) : lkp ((q', u) :: es) p = if p = q' then some u else lkp es p := rfl
theorem lkE_cons (nd : Nd) (E : List Nd) (q : Pose) : lkE (nd :: E) q = if nd.at_ = q then nd.par else lkE E q := by
  unfold lkE
  by_cases h : nd.at_ = q <;> simp [h]
theorem lkp_mapE (q : Pose) : ∀ E : List Nd, (lkp (mapE E) q).getD (poseV poseD) = poseV (lkE E q) ∧ (lkp (mapE E) q).isSome = isIn E q
  | [] => ⟨rfl, rfl⟩
  | nd :: E => by
    have ih := lkp_mapE q E
    have e : mapE (nd :: E) = (nd.at_, poseV nd.par) :: mapE E := rfl
    have e2 : isIn (nd :: E) q = (decide (nd.at_ = q) || isIn E q) := rfl
    rw [e, lkp_cons, lkE_cons, e2]
    by_cases h : nd.at_ = q
    · have h' : q = nd.at_ := h.symm
      rw [if_pos h', if_pos h]; simp [h]
    · have h' : ¬ q = nd.at_ := fun e => h e.symm
      rw [if_neg h', if_neg h]; simp only [h, decide_false, Bool.false_or]; exact ih
theorem putM_mapE {q p : Pose} {way : List Pose} : ∀ {E : List Nd}, isIn E q = false → putM (mapE E) q (poseV p) = mapE (E ++ [⟨q, p, way⟩])
  | [], _ => rfl
  | nd :: E, h => by
    have h0 := isIn_f.1 h
    have h1 : ¬ q = nd.at_ := fun e => h0 nd (by simp) e.symm
    have h2 : isIn E q = false := isIn_f.2 fun n hn => h0 n (by simp [hn])
    show putM ((nd.at_, poseV nd.par) :: mapE E) q (poseV p) = (nd.at_, poseV nd.par) :: mapE (E ++ [⟨q, p, way⟩])
    unfold putM
    rw [if_neg h1, putM_mapE (way := way) h2]
section
variable {P : Program} {r : Option Nat} {m : Nat} {ops : Array Oper} {Q : Exit → Act → World → Prop} {rest : List Oper} {o : Oper}
  {ds : List Nat} {w W W' : World} {n d : Nat} {a : Act} {κ : KV} {l l1 l2 : List Blk} {Φ Ψ : World → Prop} {x y c : Operand} {v u : Value} {ty T K E : TypeId} {pos : String} {af : Array Edge} {g : Option (Nat × Bool)}
theorem run_lookM {p : Pose} {z : Value} {b : Nat} {es : PM} {ok : Bool} (hK : PKey P K) (hT : P.underlying T = some (.map K E)) (hz : ∀ w, (zeroValue E).run P w = .ok z w) (hS : St ds w W n a κ l Φ) (hx : ev κ x = some (.map (some b))) (hy : ev κ y = some (poseV p)) (hM : MapAt W b es) :
    (execOp a.eval ⟨some d, .lookup T x y ok, ty, pos, af, g⟩).run P W = .ok (.value (if ok then .tuple #[(lkp es p).getD z, .bool (lkp es p).isSome] else (lkp es p).getD z)) W := by
  simp only [execOp, hS.ev hx, hS.ev hy]
  rw [Sem.run_bind, run_look hK hT (hz W) hM p ok]
  rfl
theorem run_lookE {p : Pose} {b : Nat} {Es : List Nd} (hK : PKey P K) (hT : P.underlying T = some (.map K E)) (hz : ∀ w, (zeroValue E).run P w = .ok (poseV poseD) w) (hS : St ds w W n a κ l Φ) (hx : ev κ x = some (.map (some b))) (hy : ev κ y = some (poseV p)) (hM : MapAt W b (mapE Es)) :
    (execOp a.eval ⟨some d, .lookup T x y true, ty, pos, af, g⟩).run P W = .ok (.value (.tuple #[poseV (lkE Es p), .bool (isIn Es p)])) W := by
  rw [run_lookM hK hT hz hS hx hy hM, if_pos rfl, (lkp_mapE p Es).1, (lkp_mapE p Es).2]
theorem run_lookE0 {p : Pose} {b : Nat} {Es : List Nd} (hK : PKey P K) (hT : P.underlying T = some (.map K E)) (hz : ∀ w, (zeroValue E).run P w = .ok (poseV poseD) w) (hS : St ds w W n a κ l Φ) (hx : ev κ x = some (.map (some b))) (hy : ev κ y = some (poseV p)) (hM : MapAt W b (mapE Es)) :
    (execOp a.eval ⟨some d, .lookup T x y false, ty, pos, af, g⟩).run P W = .ok (.value (poseV (lkE Es p))) W := by
  rw [run_lookM hK hT hz hS hx hy hM, if_neg (by decide), (lkp_mapE p Es).1]
theorem St.setObj {b : Nat} {en en' : Array MapEntry} {ck ck' : Nat} (hS : St ds w W n a κ l Φ) (hb : w.heap.size ≤ b) (ho : W.heap[b]? = some (.map en ck)) (hΨ : ∀ W2 : World, Φ (W2.putObj b (.map en ck)) → W2.heap[b]? = some (.map en' ck') → Ψ W2) :
    St ds w (W.putObj b (.map en' ck')) n a κ l Ψ := by
  have hlt := (Array.getElem?_eq_some_iff.1 ho).1
  have hne : ∀ B ∈ l, B.b ≠ b := fun B hB e => by have := hS.blk B hB; rw [e, ho] at this; cases this
  have hsz : (W.putObj b (.map en' ck')).heap.size = W.heap.size := by simp [World.putObj]
  refine ⟨hS.size, ⟨hS.defers.1, fun D hD => ?_⟩, hS.get, ?_, fun B hB => ?_, hS.old, hS.dist, fun W2 ho2 hz => ?_⟩
  · have h1 := hS.defers.2 D hD
    refine ⟨h1.1, ?_⟩
    rw [World.putObj_heap_other (fun e => by rw [e, ho] at h1; cases h1.2)]; exact h1.2
  · exact hS.below.trans ⟨rfl, rfl, rfl, Nat.le_of_eq hsz.symm, fun k hk => World.putObj_heap_other (by omega)⟩
  · rw [World.putObj_heap_other (hne B hB)]; exact hS.blk B hB
  · rw [hsz] at hz
    refine hΨ W2 (hS.fact _ ⟨ho2.os, ho2.tape, ho2.output, fun k hk hn => ?_⟩ (by simpa [World.putObj] using hz)) ?_
    · by_cases e : k = b
      · subst e; rw [World.putObj_heap_same (by omega), ho]
      · rw [World.putObj_heap_other e, ho2.same k (by rw [hsz]; exact hk) hn, World.putObj_heap_other e]
    · rw [ho2.same b (by rw [hsz]; exact hlt) (fun B hB e => hne B hB e.symm), World.putObj_heap_same hlt]
def Ind (b : Nat) (Φ : World → Prop) : Prop := ∀ (A : World) (o : Obj), Φ (A.putObj b o) → Φ A
theorem st_put {p : Pose} {b : Nat} {es : PM} (hK : PKey P K) (hT : P.underlying T = some (.map K E)) (hS : St ds w W n a κ l (fun W => Φ W ∧ MapAt W b es)) (hΦ : Ind b Φ) (hb : w.heap.size ≤ b)
    (hw : Region.wanted ⟨none, .mapUpdate T x y c, ty, pos, af, g⟩ (yielded ops a.tmps) = true) (hx : ev κ x = some (.map (some b))) (hy : ev κ y = some (poseV p)) (hv : ev κ c = some v)
    (C : ∀ W a, St ds w W n a κ l (fun W => Φ W ∧ MapAt W b (putM es p v)) → wpListIn (Fw r) m P ops Q rest a W) : wpListIn (Fw r) m P ops Q (⟨none, .mapUpdate T x y c, ty, pos, af, g⟩ :: rest) a W := by
  obtain ⟨en, ck, en', ck', h1, h2, h3⟩ := run_put hK hT hS.now.2 p v
  refine wl_unit (W' := W.putObj b (.map en' ck')) hw (by simp) ?_ (C _ _ ?_)
  · simp only [execOp, hS.ev hx, hS.ev hy, hS.ev hv]
    rw [Sem.run_bind, h3]
    rfl
  · exact hS.setObj hb h1 fun W2 hp hm => ⟨hΦ _ _ hp.1, en', ck', hm, h2⟩
theorem st_putX {p : Pose} {b : Nat} {es : PM} (hK : PKey P K) (hT : P.underlying T = some (.map K E)) (hS : St ds w W n a κ l Φ) (hM : MapAt W b es) (hΦ : ∀ W', Far (fun k => k = b) W W' Φ) (hb : b < w.heap.size)
    (hw : Region.wanted ⟨none, .mapUpdate T x y c, ty, pos, af, g⟩ (yielded ops a.tmps) = true) (hx : ev κ x = some (.map (some b))) (hy : ev κ y = some (poseV p)) (hv : ev κ c = some v)
    (C : ∀ W w' a, MapAt w' b (putM es p v) → w'.heap.size = w.heap.size → KX (fun k => k = b) w w' → St ds w' W n a κ l Φ → wpListIn (Fw r) m P ops Q rest a W) : wpListIn (Fw r) m P ops Q (⟨none, .mapUpdate T x y c, ty, pos, af, g⟩ :: rest) a W := by
  obtain ⟨en, ck, en', ck', h1, h2, h3⟩ := run_put hK hT hM p v
  obtain ⟨w', h4, h5, h6, h7⟩ := hS.far (putObj_kx (b := b) W (.map en' ck')) (fun k hk => by rw [hk]; exact hb) (hΦ _)
  refine wl_unit (W' := W.putObj b (.map en' ck')) hw (by simp) ?_ (C _ w' _ ?_ h4 h5 h7)
  · simp only [execOp, hS.ev hx, hS.ev hy, hS.ev hv]
    rw [Sem.run_bind, h3]
    rfl
  · exact ⟨en', ck', by rw [h6 b hb, World.putObj_heap_same (Array.getElem?_eq_some_iff.1 h1).1], h2⟩
theorem st_ins {p : Pose} {b : Nat} {es : PM} (hK : PKey P K) (hT : P.underlying T = some (.map K E)) (hS : St ds w W n a κ l (fun W => Φ W ∧ MapAt W b es)) (hΦ : Ind b Φ) (hb : w.heap.size ≤ b)
    (hw : Region.wanted ⟨none, .insert T x y c, ty, pos, af, g⟩ (yielded ops a.tmps) = true) (hx : ev κ x = some (.map (some b))) (hy : ev κ y = some (poseV p)) (hv : ev κ c = some v)
    (C : ∀ W a, St ds w W n a κ l (fun W => Φ W ∧ MapAt W b (putM es p v)) → wpListIn (Fw r) m P ops Q rest a W) : wpListIn (Fw r) m P ops Q (⟨none, .insert T x y c, ty, pos, af, g⟩ :: rest) a W := by
  obtain ⟨en, ck, en', ck', h1, h2, h3⟩ := run_put hK hT hS.now.2 p v
  refine wl_unit (W' := W.putObj b (.map en' ck')) hw (by simp) ?_ (C _ _ ?_)
  · simp only [execOp, hS.ev hx, hS.ev hy, hS.ev hv]
    rw [Sem.run_bind, h3]
    rfl
  · exact hS.setObj hb h1 fun W2 hp hm => ⟨hΦ _ _ hp.1, en', ck', hm, h2⟩
theorem St.newObj (hS : St ds w W n a κ l Φ) (o : Obj) : St ds w (W.alloc o) n a κ l (fun W2 => Φ W2 ∧ W2.heap[W.heap.size]? = some o) := by
  have hg := hS.grow ((Below.refl W.heap.size W).alloc (Nat.le_refl _) o)
  refine ⟨hg.size, hg.defers, hg.get, hg.below, hg.blk, hg.old, hg.dist, fun W2 ho hz => ⟨hg.fact W2 ho hz, ?_⟩⟩
  rw [ho.same W.heap.size (by simp) (fun B hB e => by have := hS.lt hB; omega)]
  exact World.alloc_heap_new W o
theorem st_makeMap (hS : St ds w W n a κ l Φ) (hw : Region.wanted ⟨some d, .makeMap T none, ty, pos, af, g⟩ (yielded ops a.tmps) = true) (hd : Nat.blt d n = true)
    (C : ∀ W a b, w.heap.size ≤ b → St ds w W n a ((d, .map (some b)) :: κ) l (fun W => Φ W ∧ MapAt W b []) → wpListIn (Fw r) m P ops Q rest a W) : wpListIn (Fw r) m P ops Q (⟨some d, .makeMap T none, ty, pos, af, g⟩ :: rest) a W :=
  wl_op hw (by simp) (v := .map (some W.heap.size)) (W' := W.alloc (.map #[] 0)) (by
    simp only [execOp, Option.map_none]
    rw [Sem.run_bind, run_makeMap]; rfl) (C _ _ W.heap.size hS.below.size (((hS.newObj _).less fun W2 h => ⟨h.1, #[], 0, h.2, rfl⟩).put hd _))
end
end Go.Proofs.YtdnodlgebpnfoaaGreat
namespace Go.Proofs.YtdnodlgebpnfoaaGreat
open Go Go.RowKit Go.Shelf Sw
abbrev eRowB (y : SV × List Bool) : List Value := [.slice y.1.a y.2.length y.1.c]
abbrev kWk : Kd (SV × List Bool) := kOf eRowB 1 24 (by decide) (fun _ => rfl)
def wkD : SV × List Bool := (⟨none, 0⟩, [])
def wkAt (ys : List (SV × List Bool)) (j : Nat) : SV × List Bool := ys.getD j wkD
theorem wkAt_mem {ys : List (SV × List Bool)} {j : Nat} (h : j < ys.length) : wkAt ys j ∈ ys := getD_mem h
structure CV where
  V : RV
  r : Rot
  s0 : SV
  s1 : SV
  sw : SV
  ys : List (SV × List Bool)
  p : Addr
  sf : SV
abbrev crxC (X : CV) (S : Site) : List Value := craftC X.V X.r S.c ++ [.slice X.s0.a S.all.length X.s0.c, .slice X.s1.a S.single.length X.s1.c, .slice X.sw.a X.ys.length X.sw.c]
abbrev siteC (X : CV) (S : Site) : List Value := .pointer (some X.p) :: fldC X.sf S.f
structure SiteR (F : Nat → Prop) (W : World) (X : CV) (S : Site) : Prop where
  cells : CellsAt W X.p (crxC X S)
  blk : F X.p.block
  all : Sl kInt F W X.s0 S.all
  single : Sl kInt F W X.s1 S.single
  wake : Sl kWk F W X.sw X.ys
  rows : ∀ y ∈ X.ys, Sl kBool F W y.1 y.2
  hinds : Sl kHind F W X.sf S.f.hinds
  same : X.ys.map Prod.snd = S.wake
theorem SiteR.keep {F : Nat → Prop} {W W' : World} {X : CV} {S : Site} (h : SiteR F W X S) (hm : ∀ k, F k → k < W.heap.size → W'.heap[k]? = W.heap[k]?) : SiteR F W' X S :=
  ⟨fun i u hu => by
    have h1 := h.cells i u hu
    have h2 := cell_lt h1
    rw [add_block] at h2
    exact cell_same h1 (by rw [add_block]; exact hm _ h.blk h2), h.blk, h.all.move hm, h.single.move hm, h.wake.move hm, fun y hy => (h.rows y hy).move hm, h.hinds.move hm, h.same⟩
theorem SiteR.at_ {F : Nat → Prop} {w W : World} {X : CV} {S : Site} (h : SiteR F w X S) (hb : Below w.heap.size w W) : SiteR F W X S := h.keep (keep_of hb)
theorem SiteR.wide {F F' : Nat → Prop} {W : World} {X : CV} {S : Site} (h : SiteR F W X S) (hF : ∀ k, F k → k < W.heap.size → F' k) : SiteR F' W X S := by
  refine ⟨h.cells, hF _ h.blk ?_, h.all.wide hF (fun _ _ => by decide), h.single.wide hF (fun _ _ => by decide), h.wake.wide hF (fun _ _ => by decide), fun y hy => (h.rows y hy).wide hF (fun _ _ => by decide), h.hinds.wide hF (fun _ _ => by decide), h.same⟩
  have h1 := cell_lt (h.cells 33 _ rfl)
  rwa [add_block] at h1
theorem SiteR.deep {F : Nat → Prop} {W : World} {X : CV} {S : Site} (h : SiteR F W X S) : SiteR (fun k => F k ∧ k < W.heap.size) W X S := h.wide fun _ h1 h2 => ⟨h1, h2⟩
theorem Sl.kp {α : Type} {enc : α → List Value} {nn bb : Nat} {hb : 0 < bb} {hl : ∀ x, (enc x).length = nn} {F S : Nat → Prop} {W W' : World} {s : SV} {xs : List α} (h : Sl (kOf enc nn bb hb hl) F W s xs) (hk : Kp S W W') (hn : ∀ k, F k → ¬ S k) : Sl (kOf enc nn bb hb hl) F W' s xs := h.keepC (fun _ _ h => h) fun _ _ hp hv => hk.cell hv (hn _ hp)
theorem SiteR.kp {F T : Nat → Prop} {W W' : World} {X : CV} {S : Site} (h : SiteR F W X S) (hk : Kp T W W') (hn : ∀ k, F k → ¬ T k) : SiteR F W' X S :=
  ⟨hk.cellsAt h.cells (hn _ h.blk), h.blk, h.all.kp hk hn, h.single.kp hk hn, h.wake.kp hk hn, fun y hy => (h.rows y hy).kp hk hn, h.hinds.kp hk hn, h.same⟩
structure SiteP (S : Site) : Prop where
  cr : CrP S.c
  all : S.all.length = S.c.top.toNat + 1
  single : S.single.length = S.c.top.toNat + 1
  wake : S.wake.length = S.c.top.toNat + 1
  rows : ∀ y ∈ S.wake, y.length = S.c.drop.toNat + 1
  rate : ∀ e v, -1000000000 ≤ ix (S.rate e) v ∧ ix (S.rate e) v ≤ 1000000000
theorem SiteP.rateLen {S : Site} (h : SiteP S) (e : Bool) : (S.rate e).length = S.c.top.toNat + 1 := by cases e; exact h.all; exact h.single
theorem SiteR.ysLen {F : Nat → Prop} {W : World} {X : CV} {S : Site} (h : SiteR F W X S) (hP : SiteP S) : X.ys.length = S.c.top.toNat + 1 := by
  have := congrArg List.length h.same
  rw [List.length_map] at this; rw [this, hP.wake]
theorem SiteR.row {F : Nat → Prop} {W : World} {X : CV} {S : Site} (h : SiteR F W X S) (j : Nat) : (wkAt X.ys j).2 = wakeRow S (j : Int) := by
  unfold wkAt wakeRow
  rw [← h.same]
  simp only [List.getD_eq_getElem?_getD, List.getElem?_map, Int.toNat_natCast]
  cases X.ys[j]? <;> rfl
theorem SiteR.rowI {F : Nat → Prop} {W : World} {X : CV} {S : Site} (h : SiteR F W X S) (v : Int) : (wkAt X.ys v.toNat).2 = wakeRow S v := by
  unfold wkAt wakeRow
  rw [← h.same]
  simp only [List.getD_eq_getElem?_getD, List.getElem?_map]
  cases X.ys[v.toNat]? <;> rfl
theorem SiteP.rowLenI {S : Site} (h : SiteP S) {v : Int} (h0 : 0 ≤ v) (h1 : v ≤ S.c.top) : (wakeRow S v).length = S.c.drop.toNat + 1 := by
  unfold wakeRow
  rw [List.getD_eq_getElem?_getD, List.getElem?_eq_getElem (by rw [h.wake]; omega), Option.getD_some]
  exact h.rows _ (List.getElem_mem _)
def CV.rs (X : CV) (e : Bool) : SV := if e then X.s1 else X.s0
def engN (e : Bool) : Nat := if e then 1 else 0
theorem SiteR.rate {F : Nat → Prop} {W : World} {X : CV} {S : Site} (h : SiteR F W X S) (e : Bool) : Sl kInt F W (X.rs e) (S.rate e) := by cases e; exact h.all; exact h.single
theorem SiteR.rateCell {F : Nat → Prop} {W : World} {X : CV} {S : Site} (h : SiteR F W X S) (e : Bool) : W.cell? ((X.p.add 33).add (engN e * 1)) = some (.slice (X.rs e).a (S.rate e).length (X.rs e).c) := by
  rw [add_add]
  cases e
  · exact h.cells 33 _ rfl
  · exact h.cells 34 _ rfl
section
variable {P : Program} {ds : List Nat} {w W : World} {n d : Nat} {a : Act} {κ : KV} {l : List Blk} {Φ : World → Prop} {x y : Operand} {ty T E : TypeId} {pos : String} {af : Array Edge} {g : Option (Nat × Bool)}
theorem run_idxArrE {p : Addr} {k sz : Nat} {i : Int} {j : Nat} (hT : P.underlying T = some (.array k E)) (hz : ∀ w, (sizeOf E).run P w = .ok sz w) (hS : St ds w W n a κ l Φ)
    (hx : ev κ x = some (.pointer (some p))) (hy : ev κ y = some (.int .i64 i)) (e : i = (j : Int)) (h1 : j < k) : (execOp a.eval ⟨some d, .indexAddr T x y, ty, pos, af, g⟩).run P W = .ok (.value (.pointer (some (p.add (j * sz))))) W := by
  subst e
  simp only [execOp, hS.ev hx, hS.ev hy]
  simp [Instr.indexAt, Instr.sureAddr, asIntOf, run_underlying hT, hz W, h1]
end
end Go.Proofs.YtdnodlgebpnfoaaGreat
namespace Go.Proofs.YtdnodlgebpnfoaaGreat
open Go Go.RowKit Go.Shelf Sw
set_option maxHeartbeats 2000000 in
set_option maxRecDepth 100000 in
theorem engine_engines  {e : Bool} {w : World}   : Ret Tryz.prog 97 [.bool e] w (fun v _ => v = .int .i64 ((engN e : Nat) : Int)) := by
 refine ret_start (n := 4) Tryz.func97 rfl rfl rfl (fun a hS => ?_)
 refine wpIn_seq ?_
 refine wpIn_region_lit ?_
 refine st_v hS rfl rfl (run_assign hS rfl) fun a hS => wl_nil ?_
 refine wpIn_seq ?_
 refine wpIn_seq ?_
 refine wpIn_region_lit ?_
 refine st_v hS rfl rfl (run_move hS rfl) fun a hS => wl_nil ?_
 refine st_cond hS rfl (fun hc1 => ?_) (fun hc1 => ?_)
 ·
  try simp only [ty] at hc1
  refine wpIn_seq ?_
  refine wpIn_region_lit ?_
  refine st_v hS rfl rfl (run_assign hS rfl) fun a hS => wl_nil ?_
  refine wpIn_ret ?_
  repeat (first | refine q_ret ?_ | refine q_block_ret ?_)
  refine hS.done (res1 (fn := Tryz.f97) (r1 := .tmp 2) rfl (rv_tmp hS rfl)) ?_
  rw [hc1]; rfl
 ·
  try simp only [ty] at hc1
  refine wpIn_skip ?_
  refine wpIn_seq ?_
  refine wpIn_region_lit ?_
  refine st_v hS rfl rfl (run_assign hS rfl) fun a hS => wl_nil ?_
  refine wpIn_ret ?_
  repeat (first | refine q_ret ?_ | refine q_block_ret ?_)
  refine hS.done (res1 (fn := Tryz.f97) (r1 := .tmp 2) rfl (rv_tmp hS rfl)) ?_
  rw [hc1]; rfl
set_option maxHeartbeats 2000000 in
set_option maxRecDepth 100000 in
theorem engine_found (u : Value) (b : Bool) {w : World} : Ret Tryz.prog 75 [u, .bool b] w (fun v _ => v = if b then .tuple #[u, .int .i64 0] else .tuple #[.slice none 0 0, .int .i64 3]) := by
 refine ret_start (n := 9) Tryz.func75 rfl rfl rfl (fun a hS => ?_)
 refine wpIn_seq ?_
 refine wpIn_region_lit ?_
 refine st_v hS rfl rfl (run_assign hS rfl) fun a hS => st_v hS rfl rfl (run_assign hS rfl) fun a hS => wl_nil ?_
 refine wpIn_seq ?_
 refine wpIn_seq ?_
 refine wpIn_region_lit ?_
 refine st_v hS rfl rfl (run_move hS rfl) fun a hS => st_v hS rfl rfl (run_not hS rfl) fun a hS => wl_nil ?_
 refine st_cond hS rfl (fun hc1 => ?_) (fun hc1 => ?_)
 ·
  try simp only [ty] at hc1
  refine wpIn_seq ?_
  refine wpIn_region_lit ?_
  refine st_v hS rfl rfl (run_assign hS rfl) fun a hS => st_v hS rfl rfl (run_assign hS rfl) fun a hS => wl_nil ?_
  refine wpIn_ret ?_
  repeat (first | refine q_ret ?_ | refine q_block_ret ?_)
  refine hS.done (res2 (fn := Tryz.f75) (r1 := .tmp 4) (r2 := .tmp 5) rfl (rv_tmp hS rfl) (rv_tmp hS rfl)) ?_
  rw [hc1]; rfl
 ·
  try simp only [ty] at hc1
  refine wpIn_skip ?_
  refine wpIn_seq ?_
  refine wpIn_region_lit ?_
  refine st_v hS rfl rfl (run_move hS rfl) fun a hS => st_v hS rfl rfl (run_assign hS rfl) fun a hS => st_v hS rfl rfl (run_assign hS rfl) fun a hS => wl_nil ?_
  refine wpIn_ret ?_
  repeat (first | refine q_ret ?_ | refine q_block_ret ?_)
  refine hS.done (res2 (fn := Tryz.f75) (r1 := .tmp 4) (r2 := .tmp 5) rfl (rv_tmp hS rfl) (rv_tmp hS rfl)) ?_
  rw [hc1]; rfl
set_option maxHeartbeats 2000000 in
set_option maxRecDepth 100000 in
theorem engine_down  (X : CV) (S : Site) (p : Pose) {w : World} {FX : Nat → Prop} (hX : SiteR FX w X S) (hP : SiteP S)  : Ret Tryz.prog 134 [.agg (siteC X S).toArray, .agg (poseC p).toArray] w (fun v _ => v = .bool (downP S p)) := by
 refine ret_start (n := 27) Tryz.func134 rfl rfl rfl (fun a hS => ?_)
 have HX : ∀ W, Below w.heap.size w W → SiteR FX W X S := fun W hb => hX.at_ hb
 refine wpIn_seq ?_
 refine wpIn_region_lit ?_
 refine st_box_agg hS rfl rfl rfl fun W a b0 hS => st_box_agg hS rfl rfl rfl fun W a b1 hS => st_v hS rfl rfl (run_assign hS rfl) fun a hS => wl_nil ?_
 refine wpIn_seq ?_
 refine st_draw (by kernel_rfl) (by kernel_rfl) hS ?_
 refine qt_v hS rfl rfl (fun W hB hS => run_fieldAddr fa38_2 hS rfl) fun a hS => qt_v hS rfl rfl (fun W hB hS => run_load_one (i := 0) Tryz.isAgg3 hS rfl rfl rfl) fun a hS => qt_v hS rfl rfl (fun W hB hS => run_bin hS rfl rfl rfl) fun a hS => qt_v hS rfl rfl (fun W hB hS => run_move hS rfl) fun a hS => ?_
 refine st_split (d := 8) hS rfl (fun hc1 hS => ?_) (fun hc1 hS => ?_)
 ·
  try simp only [ty] at hc1
  refine qt_v hS (hS.wanted rfl rfl rfl) rfl (fun W hB hS => run_fieldAddr fa38_1 hS rfl) fun a hS => qt_v hS (hS.wanted rfl rfl rfl) rfl (fun W hB hS => run_load_one (i := 0) Tryz.isAgg3 hS rfl rfl rfl) fun a hS => qt_v hS (hS.wanted rfl rfl rfl) rfl (fun W hB hS => run_fieldAddr fa111_0 hS rfl) fun a hS => qt_v hS (hS.wanted rfl rfl rfl) rfl (fun W hB hS => run_load_one (i := 1) Tryz.isAgg109 hS rfl rfl rfl) fun a hS => qt_v hS (hS.wanted rfl rfl rfl) rfl (fun W hB hS => run_nilCheck hS rfl) fun a hS => qt_v hS (hS.wanted rfl rfl rfl) rfl (fun W hB hS => run_fieldAddrE fe143_0 hS rfl) fun a hS => qt_v hS (hS.wanted rfl rfl rfl) rfl (fun W hB hS => run_fieldAddrE fe29_6 hS rfl) fun a hS => qt_v hS (hS.wanted rfl rfl rfl) rfl (fun W hB hS => run_load_cell Tryz.isAgg3 hS rfl (by rw [add_add]; exact (fun W hC => (HX W hC).cells) _ hS.below 31 _ rfl)) fun a hS => qt_v hS (hS.wanted rfl rfl rfl) rfl (fun W hB hS => run_bin hS rfl rfl rfl) fun a hS => qt_v hS rfl rfl (fun W hB hS => run_pick_t hS rfl rfl) fun a hS => qt_v hS rfl rfl (fun W hB hS => run_move hS rfl) fun a hS => ?_
  refine st_split (d := 19) hS rfl (fun hc2 hS => ?_) (fun hc2 hS => ?_)
  ·
   try simp only [ty] at hc2
   refine qt_v hS (hS.wanted rfl rfl rfl) rfl (fun W hB hS => run_fieldAddr fa38_0 hS rfl) fun a hS => qt_v hS (hS.wanted rfl rfl rfl) rfl (fun W hB hS => run_load_one (i := 0) Tryz.isAgg3 hS rfl rfl rfl) fun a hS => qt_v hS (hS.wanted rfl rfl rfl) rfl (fun W hB hS => run_fieldAddr fa111_1 hS rfl) fun a hS => qt_v hS (hS.wanted rfl rfl rfl) rfl (fun W hB hS => run_fieldAddr fa36_0 hS rfl) fun a hS => qt_v hS (hS.wanted rfl rfl rfl) rfl (fun W hB hS => run_load_one (i := 1) Tryz.isAgg3 hS rfl rfl rfl) fun a hS => qt_call hS (hS.wanted rfl rfl rfl) rfl Tryz.call152 rfl (fun W hB hS => engine_within) fun a hS => qt_v hS rfl rfl (fun W hB hS => run_pick_t hS rfl rfl) fun a hS => qt_v hS rfl rfl (fun W hB hS => run_assign hS rfl) fun a hS => qt_nil hS fun W hS => ?_
   refine wpIn_ret ?_
   repeat (first | refine q_ret ?_ | refine q_block_ret ?_)
   refine hS.done (res1 (fn := Tryz.f134) (r1 := .tmp 4) rfl (rv_tmp hS rfl)) ?_
   refine vb ?_; simp [downP, hc1, hc2]; try omega
  ·
   try simp only [ty] at hc2
   refine qt_skip hS (hS.unwanted rfl rfl rfl rfl) rfl fun a hS => qt_skip hS (hS.unwanted rfl rfl rfl rfl) rfl fun a hS => qt_skip hS (hS.unwanted rfl rfl rfl rfl) rfl fun a hS => qt_skip hS (hS.unwanted rfl rfl rfl rfl) rfl fun a hS => qt_skip hS (hS.unwanted rfl rfl rfl rfl) rfl fun a hS => qt_skip hS (hS.unwanted rfl rfl rfl rfl) rfl fun a hS => qt_v hS rfl rfl (fun W hB hS => run_pick_f hS rfl rfl) fun a hS => qt_v hS rfl rfl (fun W hB hS => run_assign hS rfl) fun a hS => qt_nil hS fun W hS => ?_
   refine wpIn_ret ?_
   repeat (first | refine q_ret ?_ | refine q_block_ret ?_)
   refine hS.done (res1 (fn := Tryz.f134) (r1 := .tmp 4) rfl (rv_tmp hS rfl)) ?_
   refine vb ?_; simp [downP, hc1, hc2]; try omega
 ·
  try simp only [ty] at hc1
  refine qt_skip hS (hS.unwanted rfl rfl rfl rfl) rfl fun a hS => qt_skip hS (hS.unwanted rfl rfl rfl rfl) rfl fun a hS => qt_skip hS (hS.unwanted rfl rfl rfl rfl) rfl fun a hS => qt_skip hS (hS.unwanted rfl rfl rfl rfl) rfl fun a hS => qt_skip hS (hS.unwanted rfl rfl rfl rfl) rfl fun a hS => qt_skip hS (hS.unwanted rfl rfl rfl rfl) rfl fun a hS => qt_skip hS (hS.unwanted rfl rfl rfl rfl) rfl fun a hS => qt_skip hS (hS.unwanted rfl rfl rfl rfl) rfl fun a hS => qt_skip hS (hS.unwanted rfl rfl rfl rfl) rfl fun a hS => qt_v hS rfl rfl (fun W hB hS => run_pick_f hS rfl rfl) fun a hS => qt_v hS rfl rfl (fun W hB hS => run_move hS rfl) fun a hS => qt_skip hS (hS.unwanted rfl rfl rfl rfl) rfl fun a hS => qt_skip hS (hS.unwanted rfl rfl rfl rfl) rfl fun a hS => qt_skip hS (hS.unwanted rfl rfl rfl rfl) rfl fun a hS => qt_skip hS (hS.unwanted rfl rfl rfl rfl) rfl fun a hS => qt_skip hS (hS.unwanted rfl rfl rfl rfl) rfl fun a hS => qt_skip hS (hS.unwanted rfl rfl rfl rfl) rfl fun a hS => qt_v hS rfl rfl (fun W hB hS => run_pick_f hS rfl rfl) fun a hS => qt_v hS rfl rfl (fun W hB hS => run_assign hS rfl) fun a hS => qt_nil hS fun W hS => ?_
  refine wpIn_ret ?_
  repeat (first | refine q_ret ?_ | refine q_block_ret ?_)
  refine hS.done (res1 (fn := Tryz.f134) (r1 := .tmp 4) rfl (rv_tmp hS rfl)) ?_
  refine vb ?_; simp [downP, hc1]; try omega
set_option maxHeartbeats 2000000 in
set_option maxRecDepth 100000 in
theorem engine_away  (X : CV) (S : Site) (p : Pose) {w : World} {FX : Nat → Prop} (hX : SiteR FX w X S) (hP : SiteP S) (hv : 0 ≤ p.speed ∧ p.speed ≤ S.c.top) : Ret Tryz.prog 129 [.agg (siteC X S).toArray, .agg (poseC p).toArray] w (fun v _ => v = .bool (awayP S p)) := by
 refine ret_start (n := 32) Tryz.func129 rfl rfl rfl (fun a hS => ?_)
 have HX : ∀ W, Below w.heap.size w W → SiteR FX W X S := fun W hb => hX.at_ hb
 have hal := hP.single
 refine wpIn_seq ?_
 refine wpIn_region_lit ?_
 refine st_box_agg hS rfl rfl rfl fun W a b0 hS => st_box_agg hS rfl rfl rfl fun W a b1 hS => st_v hS rfl rfl (run_assign hS rfl) fun a hS => wl_nil ?_
 refine wpIn_seq ?_
 refine st_draw (by kernel_rfl) (by kernel_rfl) hS ?_
 refine qt_v hS rfl rfl (fun W hB hS => run_fieldAddr fa38_2 hS rfl) fun a hS => qt_v hS rfl rfl (fun W hB hS => run_load_one (i := 0) Tryz.isAgg3 hS rfl rfl rfl) fun a hS => qt_v hS rfl rfl (fun W hB hS => run_fieldAddr fa111_1 hS rfl) fun a hS => qt_v hS rfl rfl (fun W hB hS => run_fieldAddr fa36_1 hS rfl) fun a hS => qt_v hS rfl rfl (fun W hB hS => run_load_one (i := 1) Tryz.isAgg3 hS rfl rfl rfl) fun a hS => qt_v hS rfl rfl (fun W hB hS => run_bin hS rfl rfl rfl) fun a hS => qt_v hS rfl rfl (fun W hB hS => run_move hS rfl) fun a hS => ?_
 refine st_split (d := 11) hS rfl (fun hc1 hS => ?_) (fun hc1 hS => ?_)
 ·
  try simp only [ty] at hc1
  refine qt_v hS (hS.wanted rfl rfl rfl) rfl (fun W hB hS => run_fieldAddr fa38_1 hS rfl) fun a hS => qt_v hS (hS.wanted rfl rfl rfl) rfl (fun W hB hS => run_load_one (i := 0) Tryz.isAgg3 hS rfl rfl rfl) fun a hS => qt_v hS (hS.wanted rfl rfl rfl) rfl (fun W hB hS => run_fieldAddr fa111_1 hS rfl) fun a hS => qt_v hS (hS.wanted rfl rfl rfl) rfl (fun W hB hS => run_fieldAddr fa36_2 hS rfl) fun a hS => qt_v hS (hS.wanted rfl rfl rfl) rfl (fun W hB hS => run_load_one (i := 1) Tryz.isAgg3 hS rfl rfl rfl) fun a hS => qt_v hS (hS.wanted rfl rfl rfl) rfl (fun W hB hS => run_bin hS rfl rfl rfl) fun a hS => qt_v hS rfl rfl (fun W hB hS => run_pick_t hS rfl rfl) fun a hS => qt_v hS rfl rfl (fun W hB hS => run_move hS rfl) fun a hS => ?_
  refine st_split (d := 19) hS rfl (fun hc2 hS => ?_) (fun hc2 hS => ?_)
  ·
   try simp only [ty] at hc2
   refine qt_v hS (hS.wanted rfl rfl rfl) rfl (fun W hB hS => run_fieldAddr fa111_0 hS rfl) fun a hS => qt_v hS (hS.wanted rfl rfl rfl) rfl (fun W hB hS => run_load_one (i := 1) Tryz.isAgg109 hS rfl rfl rfl) fun a hS => qt_v hS (hS.wanted rfl rfl rfl) rfl (fun W hB hS => run_nilCheck hS rfl) fun a hS => qt_v hS (hS.wanted rfl rfl rfl) rfl (fun W hB hS => run_fieldAddrE fe143_1 hS rfl) fun a hS => qt_v hS (hS.wanted rfl rfl rfl) rfl (fun W hB hS => run_idxArrE (j := 1) Tryz.underlying141 Tryz.sizeOf22 hS rfl rfl rfl (by decide)) fun a hS => qt_v hS (hS.wanted rfl rfl rfl) rfl (fun W hB hS => run_load_cell Tryz.isAgg22 hS rfl (by rw [add_add]; exact (fun W hC => (HX W hC).cells) _ hS.below 34 _ rfl)) fun a hS => qt_v hS (hS.wanted rfl rfl rfl) rfl (fun W hB hS => run_fieldAddr fa38_1 hS rfl) fun a hS => qt_v hS (hS.wanted rfl rfl rfl) rfl (fun W hB hS => run_load_one (i := 0) Tryz.isAgg3 hS rfl rfl rfl) fun a hS => ?_
   obtain ⟨ad0, hA0, hL0⟩ := sl_int (fun W hC => (HX W hC).single) (Below.refl _ _) (i := p.speed) (j := (p.speed).toNat) (by omega) (by omega)
   refine qt_v hS (hS.wanted rfl rfl rfl) rfl (fun W hB hS => run_indexAddr Tryz.underlying22 Tryz.sizeOf3 hS rfl rfl hA0 (by omega) (by omega)) fun a hS => qt_v hS (hS.wanted rfl rfl rfl) rfl (fun W hB hS => run_load_cell Tryz.isAgg3 hS rfl (hL0 _ hS.below)) fun a hS => qt_v hS (hS.wanted rfl rfl rfl) rfl (fun W hB hS => run_bin hS rfl rfl rfl) fun a hS => qt_v hS rfl rfl (fun W hB hS => run_pick_t hS rfl rfl) fun a hS => qt_v hS rfl rfl (fun W hB hS => run_assign hS rfl) fun a hS => qt_nil hS fun W hS => ?_
   have hS := hS.sub (κ' := [(0, _), (1, _), (2, _), (3, _), (4, _)]) (Sub.cons rfl (Sub.cons rfl (Sub.cons rfl (Sub.cons rfl (Sub.cons rfl Sub.nil)))))
   refine wpIn_ret ?_
   repeat (first | refine q_ret ?_ | refine q_block_ret ?_)
   refine hS.done (res1 (fn := Tryz.f129) (r1 := .tmp 4) rfl (rv_tmp hS rfl)) ?_
   refine vb ?_; simp [awayP, hc1, hc2]; try omega
  ·
   try simp only [ty] at hc2
   refine qt_skip hS (hS.unwanted rfl rfl rfl rfl) rfl fun a hS => qt_skip hS (hS.unwanted rfl rfl rfl rfl) rfl fun a hS => qt_skip hS (hS.unwanted rfl rfl rfl rfl) rfl fun a hS => qt_skip hS (hS.unwanted rfl rfl rfl rfl) rfl fun a hS => qt_skip hS (hS.unwanted rfl rfl rfl rfl) rfl fun a hS => qt_skip hS (hS.unwanted rfl rfl rfl rfl) rfl fun a hS => qt_skip hS (hS.unwanted rfl rfl rfl rfl) rfl fun a hS => qt_skip hS (hS.unwanted rfl rfl rfl rfl) rfl fun a hS => qt_skip hS (hS.unwanted rfl rfl rfl rfl) rfl fun a hS => qt_skip hS (hS.unwanted rfl rfl rfl rfl) rfl fun a hS => qt_skip hS (hS.unwanted rfl rfl rfl rfl) rfl fun a hS => qt_v hS rfl rfl (fun W hB hS => run_pick_f hS rfl rfl) fun a hS => qt_v hS rfl rfl (fun W hB hS => run_assign hS rfl) fun a hS => qt_nil hS fun W hS => ?_
   have hS := hS.sub (κ' := [(0, _), (1, _), (2, _), (3, _), (4, _)]) (Sub.cons rfl (Sub.cons rfl (Sub.cons rfl (Sub.cons rfl (Sub.cons rfl Sub.nil)))))
   refine wpIn_ret ?_
   repeat (first | refine q_ret ?_ | refine q_block_ret ?_)
   refine hS.done (res1 (fn := Tryz.f129) (r1 := .tmp 4) rfl (rv_tmp hS rfl)) ?_
   refine vb ?_; simp [awayP, hc1, hc2]; try omega
 ·
  try simp only [ty] at hc1
  refine qt_skip hS (hS.unwanted rfl rfl rfl rfl) rfl fun a hS => qt_skip hS (hS.unwanted rfl rfl rfl rfl) rfl fun a hS => qt_skip hS (hS.unwanted rfl rfl rfl rfl) rfl fun a hS => qt_skip hS (hS.unwanted rfl rfl rfl rfl) rfl fun a hS => qt_skip hS (hS.unwanted rfl rfl rfl rfl) rfl fun a hS => qt_skip hS (hS.unwanted rfl rfl rfl rfl) rfl fun a hS => qt_v hS rfl rfl (fun W hB hS => run_pick_f hS rfl rfl) fun a hS => qt_v hS rfl rfl (fun W hB hS => run_move hS rfl) fun a hS => qt_skip hS (hS.unwanted rfl rfl rfl rfl) rfl fun a hS => qt_skip hS (hS.unwanted rfl rfl rfl rfl) rfl fun a hS => qt_skip hS (hS.unwanted rfl rfl rfl rfl) rfl fun a hS => qt_skip hS (hS.unwanted rfl rfl rfl rfl) rfl fun a hS => qt_skip hS (hS.unwanted rfl rfl rfl rfl) rfl fun a hS => qt_skip hS (hS.unwanted rfl rfl rfl rfl) rfl fun a hS => qt_skip hS (hS.unwanted rfl rfl rfl rfl) rfl fun a hS => qt_skip hS (hS.unwanted rfl rfl rfl rfl) rfl fun a hS => qt_skip hS (hS.unwanted rfl rfl rfl rfl) rfl fun a hS => qt_skip hS (hS.unwanted rfl rfl rfl rfl) rfl fun a hS => qt_skip hS (hS.unwanted rfl rfl rfl rfl) rfl fun a hS => qt_v hS rfl rfl (fun W hB hS => run_pick_f hS rfl rfl) fun a hS => qt_v hS rfl rfl (fun W hB hS => run_assign hS rfl) fun a hS => qt_nil hS fun W hS => ?_
  have hS := hS.sub (κ' := [(0, _), (1, _), (2, _), (3, _), (4, _)]) (Sub.cons rfl (Sub.cons rfl (Sub.cons rfl (Sub.cons rfl (Sub.cons rfl Sub.nil)))))
  refine wpIn_ret ?_
  repeat (first | refine q_ret ?_ | refine q_block_ret ?_)
  refine hS.done (res1 (fn := Tryz.f129) (r1 := .tmp 4) rfl (rv_tmp hS rfl)) ?_
  refine vb ?_; simp [awayP, hc1]; try omega
set_option maxHeartbeats 2000000 in
set_option maxRecDepth 100000 in
theorem engine_clear1 (p q : Pose) (h : Hind) (p1 : Addr) (p2 : Addr) {w : World} (h1 : CellsAt w p1 (poseC p)) (h2 : CellsAt w p2 (poseC q))  : Ret Tryz.prog 240 [.agg (hindC h).toArray, .pointer (some p1), .pointer (some p2)] w (fun v _ => v = .bool (hits p q h)) := by
 refine ret_start (n := 22) Tryz.func240 rfl rfl rfl (fun a hS => ?_)
 have H1 : ∀ W, Below w.heap.size w W → CellsAt W p1 (poseC p) := fun W hb => h1.at_ hb
 have H2 : ∀ W, Below w.heap.size w W → CellsAt W p2 (poseC q) := fun W hb => h2.at_ hb
 refine wpIn_seq ?_
 refine wpIn_region_lit ?_
 refine st_box_agg hS rfl rfl rfl fun W a b0 hS => st_v hS rfl rfl (run_assign hS rfl) fun a hS => wl_nil ?_
 refine wpIn_seq ?_
 refine wpIn_region_lit ?_
 refine st_v hS rfl rfl (run_fieldAddr fa194_0 hS rfl) fun a hS => st_v hS rfl rfl (run_load_one (i := 0) Tryz.isAgg3 hS rfl rfl rfl) fun a hS => st_v hS rfl rfl (run_fieldAddrE fe38_0 hS rfl) fun a hS => st_v hS rfl rfl (run_load_cell Tryz.isAgg3 hS rfl (H1 _ hS.below 0 _ rfl)) fun a hS => st_v hS rfl rfl (run_fieldAddrE fe38_0 hS rfl) fun a hS => st_v hS rfl rfl (run_load_cell Tryz.isAgg3 hS rfl (H2 _ hS.below 0 _ rfl)) fun a hS => st_call (engine_within) Tryz.call152 hS rfl rfl rfl fun v W a hR hB hlt hS => ?_
 subst hR
 refine st_v hS rfl rfl (run_move hS rfl) fun a hS => ?_
 refine st_split (d := 12) hS rfl (fun hc1 hS => ?_) (fun hc1 hS => ?_)
 ·
  try simp only [ty] at hc1
  refine st_v hS (hS.wanted rfl rfl rfl) rfl (run_fieldAddrE fe38_2 hS rfl) fun a hS => st_v hS (hS.wanted rfl rfl rfl) rfl (run_load_cell Tryz.isAgg3 hS rfl (H1 _ hS.below 2 _ rfl)) fun a hS => st_v hS (hS.wanted rfl rfl rfl) rfl (run_fieldAddrE fe38_2 hS rfl) fun a hS => st_v hS (hS.wanted rfl rfl rfl) rfl (run_load_cell Tryz.isAgg3 hS rfl (H2 _ hS.below 2 _ rfl)) fun a hS => st_v hS (hS.wanted rfl rfl rfl) rfl (run_min hS rfl rfl) fun a hS => st_v hS (hS.wanted rfl rfl rfl) rfl (run_fieldAddr fa194_1 hS rfl) fun a hS => st_v hS (hS.wanted rfl rfl rfl) rfl (run_load_one (i := 0) Tryz.isAgg3 hS rfl rfl rfl) fun a hS => st_v hS (hS.wanted rfl rfl rfl) rfl (run_bin hS rfl rfl rfl) fun a hS => st_v hS rfl rfl (run_pick_t hS rfl rfl) fun a hS => st_v hS rfl rfl (run_assign hS rfl) fun a hS => wl_nil ?_
  refine wpIn_ret ?_
  repeat (first | refine q_ret ?_ | refine q_block_ret ?_)
  refine hS.done (res1 (fn := Tryz.f240) (r1 := .tmp 4) rfl (rv_tmp hS rfl)) ?_
  refine vb ?_; simp [hits, hc1]
 ·
  try simp only [ty] at hc1
  refine st_skip hS (hS.unwanted rfl rfl rfl rfl) rfl fun a hS => st_skip hS (hS.unwanted rfl rfl rfl rfl) rfl fun a hS => st_skip hS (hS.unwanted rfl rfl rfl rfl) rfl fun a hS => st_skip hS (hS.unwanted rfl rfl rfl rfl) rfl fun a hS => st_skip hS (hS.unwanted rfl rfl rfl rfl) rfl fun a hS => st_skip hS (hS.unwanted rfl rfl rfl rfl) rfl fun a hS => st_skip hS (hS.unwanted rfl rfl rfl rfl) rfl fun a hS => st_skip hS (hS.unwanted rfl rfl rfl rfl) rfl fun a hS => st_v hS rfl rfl (run_pick_f hS rfl rfl) fun a hS => st_v hS rfl rfl (run_assign hS rfl) fun a hS => wl_nil ?_
  refine wpIn_ret ?_
  repeat (first | refine q_ret ?_ | refine q_block_ret ?_)
  refine hS.done (res1 (fn := Tryz.f240) (r1 := .tmp 4) rfl (rv_tmp hS rfl)) ?_
  refine vb ?_; simp [hits, hc1]
set_option maxHeartbeats 2000000 in
set_option maxRecDepth 100000 in
theorem engine_clear  (X : CV) (S : Site) (p : Pose) (q : Pose) {w : World} {FX : Nat → Prop} (hX : SiteR FX w X S) (hP : SiteP S)  : Ret Tryz.prog 198 [.agg (siteC X S).toArray, .agg (poseC p).toArray, .agg (poseC q).toArray] w (fun v _ => v = .bool (!(blocked S p q))) := by
 refine ret_start (n := 13) Tryz.func198 rfl rfl rfl (fun a hS => ?_)
 have HX : ∀ W, Below w.heap.size w W → SiteR FX W X S := fun W hb => hX.at_ hb
 refine wpIn_seq ?_
 refine wpIn_region_lit ?_
 refine st_box_agg hS rfl rfl rfl fun W a b0 hS => st_box_agg hS rfl rfl rfl fun W a b1 hS => st_box_agg hS rfl rfl rfl fun W a b2 hS => st_v hS rfl rfl (run_assign hS rfl) fun a hS => wl_nil ?_
 refine wpIn_seq ?_
 refine wpIn_region_lit ?_
 refine st_v hS rfl rfl (run_fieldAddr fa111_1 hS rfl) fun a hS => st_v hS rfl rfl (run_fieldAddr fa36_3 hS rfl) fun a hS => st_v hS rfl rfl (run_load_one (i := 2) Tryz.isAgg34 hS rfl rfl rfl) fun a hS => st_v hS rfl rfl (run_makeFunc hS rfl rfl) fun a hS => st_call (has_hind X.sf S.f.hinds 240 [.pointer (some ⟨b1, 0, none⟩), .pointer (some ⟨b2, 0, none⟩)] (hits p q) (HX _ hS.below).hinds Tryz.call240 (fun W' hb x hx => engine_clear1 p q x ⟨b1, 0, none⟩ ⟨b2, 0, none⟩ (hS.cells (i := 1) rfl _ hb) (hS.cells (i := 0) rfl _ hb))) Tryz.call193 hS rfl rfl rfl fun v W a hR hB hlt hS => ?_
 subst hR
 refine st_v hS rfl rfl (run_not hS rfl) fun a hS => st_v hS rfl rfl (run_assign hS rfl) fun a hS => wl_nil ?_
 refine wpIn_ret ?_
 repeat (first | refine q_ret ?_ | refine q_block_ret ?_)
 refine hS.done (res1 (fn := Tryz.f198) (r1 := .tmp 6) rfl (rv_tmp hS rfl)) ?_
 rfl
set_option maxHeartbeats 2000000 in
set_option maxRecDepth 100000 in
theorem engine_anywhere  (p : Pose) {w : World}   : Ret Tryz.prog 153 [.agg (poseC p).toArray] w (fun v _ => v = .bool true) := by
 refine ret_start (n := 3) Tryz.func153 rfl rfl rfl (fun a hS => ?_)
 refine wpIn_seq ?_
 refine wpIn_region_lit ?_
 refine st_box_agg hS rfl rfl rfl fun W a b0 hS => st_v hS rfl rfl (run_assign hS rfl) fun a hS => wl_nil ?_
 refine wpIn_seq ?_
 refine wpIn_region_lit ?_
 refine st_v hS rfl rfl (run_assign hS rfl) fun a hS => wl_nil ?_
 refine wpIn_ret ?_
 repeat (first | refine q_ret ?_ | refine q_block_ret ?_)
 refine hS.done (res1 (fn := Tryz.f153) (r1 := .tmp 2) rfl (rv_tmp hS rfl)) ?_
 rfl
end Go.Proofs.YtdnodlgebpnfoaaGreat
namespace Go.Proofs.YtdnodlgebpnfoaaGreat
open Go Go.RowKit Go.Shelf Sw
structure StMem (F : Nat → Prop) (X : CV) (S : Site) (p : Pose) (e : Bool) (p1 p2 p3 : Addr) (W : World) : Prop where
  c1 : CellsAt W p1 (poseC p)
  c2 : CellsAt W p2 (siteC X S)
  c3 : CellsAt W p3 [.int .i64 ((engN e : Nat) : Int)]
  site : SiteR F W X S
theorem StMem.kp {F T : Nat → Prop} {X : CV} {S : Site} {p : Pose} {e : Bool} {p1 p2 p3 : Addr} {A B : World} (h : StMem F X S p e p1 p2 p3 A) (hk : Kp T A B) (hF : ∀ k, F k → ¬ T k) (h1 : ¬ T p1.block) (h2 : ¬ T p2.block) (h3 : ¬ T p3.block) : StMem F X S p e p1 p2 p3 B :=
  ⟨hk.cellsAt h.c1 h1, hk.cellsAt h.c2 h2, hk.cellsAt h.c3 h3, h.site.kp hk hF⟩
abbrev qAt (S : Site) (p : Pose) (k j : Nat) : Pose := ⟨p.x + (vlo p + (k : Int)), vlo p + (k : Int), hlo S p + (j : Int)⟩
theorem rowN_next (S : Site) (p : Pose) (k j : Nat) : rowN S p (vlo p + (k : Int)) (j + 1) = rowN S p (vlo p + (k : Int)) j ++ (if stepOk S p (qAt S p k j) then [qAt S p k j] else []) := rowN_succ S p _ j
theorem steps_few {S : Site} {e : Bool} {p : Pose} (ht : S.c.top ≤ 6) {k j : Nat} (hk : k ≤ vcnt S p) (hj : j ≤ 13) : (stepsN S e p k ++ rowN S p (vlo p + (k : Int)) j).length < 200 := by
  have h1 : ∀ v, (rowN S p v (hcnt S e p v)).length ≤ 13 := fun v => by
    refine Nat.le_trans (rowN_len S p v _) ?_
    unfold hcnt; rw [min2_eq, show hlo S p = max 0 (p.height - S.c.drop) from max2_eq _ _]; omega
  have h2 : ∀ k, (stepsN S e p k).length ≤ 13 * k := fun k => by
    induction k with
    | zero => simp [stepsN]
    | succ k ih => rw [stepsN_succ, List.length_append]; have := h1 (vlo p + (k : Int)); omega
  have h3 := h2 k
  have h4 := rowN_len S p (vlo p + (k : Int)) j
  have h5 : vcnt S p ≤ 7 := by unfold vcnt; rw [min2_eq, show vlo p = max 0 (p.speed - 1) from max2_eq _ _]; omega
  rw [List.length_append]; omega
theorem hcnt_most (S : Site) (e : Bool) (p : Pose) (v : Int) : hcnt S e p v ≤ 13 := by
  unfold hcnt; rw [min2_eq, show hlo S p = max 0 (p.height - S.c.drop) from max2_eq _ _]; omega
set_option maxHeartbeats 8000000 in
set_option maxRecDepth 100000 in
theorem steps_it {T F : Nat → Prop} {X : CV} {S : Site} {p : Pose} {e : Bool} {p1 p2 p3 : Addr} {w : World} {nn : Nat} (hP : SiteP S) (hp : validP S p = true) (c1 : CellsAt w p1 (poseC p)) (c2 : CellsAt w p2 (siteC X S)) (c3 : CellsAt w p3 [.int .i64 ((engN e : Nat) : Int)]) (hs : SiteR F w X S)
    (hF : ∀ k, F k → ¬ T k) (h1 : ¬ T p1.block) (h2 : ¬ T p2.block) (h3 : ¬ T p3.block) :
    SeqStopsK Fence.wide nn Tryz.prog 197 [.pointer (some p1), .pointer (some p2), .pointer (some p3)].toArray (fun q => #[.agg (poseC (clV S q)).toArray]) (Kp T) (fun xs => xs = stepsL S e p) (fun _ => True) 200 w := by
 have hvp := validP_iff.1 hp
 have hmv := min2_eq S.c.top (p.speed + 1)
 have hvl : vlo p = max 0 (p.speed - 1) := max2_eq _ _
 have hhl : hlo S p = max 0 (p.height - S.c.drop) := max2_eq _ _
 have htop := hP.cr.top; have hdr := hP.cr.drop
 have hrl := hP.rateLen e; have hwl := hP.wake
 have M1 : ∀ W, StMem F X S p e p1 p2 p3 W → CellsAt W p1 (poseC p) := fun _ h => h.c1
 have M2 : ∀ W, StMem F X S p e p1 p2 p3 W → CellsAt W p2 (siteC X S) := fun _ h => h.c2
 have M3 : ∀ W, StMem F X S p e p1 p2 p3 W → W.cell? p3 = some (.int .i64 ((engN e : Nat) : Int)) := fun _ h => h.c3 0 _ rfl
 have M4 : ∀ W, StMem F X S p e p1 p2 p3 W → SiteR F W X S := fun _ h => h.site
 have hyl := hs.ysLen hP
 refine it_start (n := 134) (Mem := StMem F X S p e p1 p2 p3) Tryz.func197 rfl rfl rfl (fun A B h hk => h.kp hk hF h1 h2 h3) (⟨c1, c2, c3, hs⟩) (fun i J Jx W a hJ hJx hY hS => ?_)
 refine wpIn_seq ?_
 refine wpIn_region_lit ?_
 refine st_v hS rfl rfl (run_fieldAddrE fe38_1 hS rfl) fun a hS => st_v hS rfl rfl (run_load_cell Tryz.isAgg3 hS rfl (M1 _ hS.now.2 1 _ rfl)) fun a hS => st_v hS rfl rfl (run_sub (t := p.speed - 1) hS rfl rfl (rfl) (by omega) (by omega)) fun a hS => st_v hS rfl rfl (run_max hS rfl rfl) fun a hS => st_v hS rfl rfl (run_assign hS rfl) fun a hS => wl_nil ?_
 refine wpIn_block ?_
 refine st_loopI (α := Nat × Int) (fun z => [(5, .int .i64 z.2)]) [(0, _), (1, _), (2, _), (3, _)] (fun z => stepsN S e p z.1) (fun z => z.1 ≤ vcnt S p ∧ z.2 = vlo p + ((z.1 : Nat) : Int)) (fun z => vcnt S p - z.1) (⟨0, (max2 0 (p.speed - 1))⟩) hS (Sub.cons rfl (Sub.cons rfl (Sub.cons rfl (Sub.cons rfl (Sub.cons rfl Sub.nil))))) (⟨Nat.zero_le _, by show max2 0 (p.speed - 1) = vlo p + ((0 : Nat) : Int); unfold vlo; omega⟩) (rfl) (fun _ h => h) (fun z W a hφ hS => ?_)
 obtain ⟨k, v⟩ := z
 dsimp only [List.cons_append, List.nil_append] at hS hφ
 obtain ⟨hk, rfl⟩ := hφ
 refine wpIn_seq ?_
 refine wpIn_seq ?_
 refine st_draw (by kernel_rfl) (by kernel_rfl) hS ?_
 refine qt_v hS rfl rfl (fun W hB hS => run_move hS rfl) fun a hS => qt_v hS rfl rfl (fun W hB hS => run_fieldAddrE fe111_0 hS rfl) fun a hS => qt_v hS rfl rfl (fun W hB hS => run_load_cell Tryz.isAgg109 hS rfl (M2 _ hS.now.2 0 _ rfl)) fun a hS => qt_v hS rfl rfl (fun W hB hS => run_nilCheck hS rfl) fun a hS => qt_v hS rfl rfl (fun W hB hS => run_fieldAddrE fe143_0 hS rfl) fun a hS => qt_v hS rfl rfl (fun W hB hS => run_fieldAddrE fe29_4 hS rfl) fun a hS => qt_v hS rfl rfl (fun W hB hS => run_load_cell Tryz.isAgg3 hS rfl (by rw [add_add]; exact (fun W hC => (M4 W hC).cells) _ hS.now.2 29 _ rfl)) fun a hS => qt_v hS rfl rfl (fun W hB hS => run_fieldAddrE fe38_1 hS rfl) fun a hS => qt_v hS rfl rfl (fun W hB hS => run_load_cell Tryz.isAgg3 hS rfl (M1 _ hS.now.2 1 _ rfl)) fun a hS => qt_v hS rfl rfl (fun W hB hS => run_add (t := p.speed + 1) hS rfl rfl (rfl) (by omega) (by omega)) fun a hS => qt_v hS rfl rfl (fun W hB hS => run_min hS rfl rfl) fun a hS => qt_v hS rfl rfl (fun W hB hS => run_bin hS rfl rfl rfl) fun a hS => qt_nil hS fun W hS => ?_
 refine st_cond hS rfl (fun hc1 => ?_) (fun hc1 => ?_)
 ·
  try simp only [ty] at hc1
  have hk2 : k < vcnt S p := by unfold vcnt; omega
  refine wpIn_skip ?_
  refine wpIn_seq ?_
  refine wpIn_block ?_
  refine wpIn_seq ?_
  refine st_draw (by kernel_rfl) (by kernel_rfl) hS ?_
  refine qt_v hS rfl rfl (fun W hB hS => run_fieldAddrE fe38_2 hS rfl) fun a hS => qt_v hS rfl rfl (fun W hB hS => run_load_cell Tryz.isAgg3 hS rfl (M1 _ hS.now.2 2 _ rfl)) fun a hS => qt_v hS rfl rfl (fun W hB hS => run_fieldAddrE fe111_0 hS rfl) fun a hS => qt_v hS rfl rfl (fun W hB hS => run_load_cell Tryz.isAgg109 hS rfl (M2 _ hS.now.2 0 _ rfl)) fun a hS => qt_v hS rfl rfl (fun W hB hS => run_nilCheck hS rfl) fun a hS => qt_v hS rfl rfl (fun W hB hS => run_fieldAddrE fe143_0 hS rfl) fun a hS => qt_v hS rfl rfl (fun W hB hS => run_fieldAddrE fe29_5 hS rfl) fun a hS => qt_v hS rfl rfl (fun W hB hS => run_load_cell Tryz.isAgg3 hS rfl (by rw [add_add]; exact (fun W hC => (M4 W hC).cells) _ hS.now.2 30 _ rfl)) fun a hS => qt_v hS rfl rfl (fun W hB hS => run_sub (t := p.height - S.c.drop) hS rfl rfl (rfl) (by omega) (by omega)) fun a hS => qt_v hS rfl rfl (fun W hB hS => run_max hS rfl rfl) fun a hS => qt_v hS rfl rfl (fun W hB hS => run_assign hS rfl) fun a hS => qt_nil hS fun W hS => ?_
  refine wpIn_block ?_
  refine st_loopI (α := Nat × Int) (fun z => [(6, .int .i64 z.2)]) [(0, _), (1, _), (2, _), (3, _), (5, _)] (fun z => stepsN S e p k ++ rowN S p (vlo p + ((k : Nat) : Int)) z.1) (fun z => z.1 ≤ hcnt S e p (vlo p + ((k : Nat) : Int)) ∧ z.2 = hlo S p + ((z.1 : Nat) : Int)) (fun z => hcnt S e p (vlo p + ((k : Nat) : Int)) - z.1) (⟨0, (max2 0 (p.height - S.c.drop))⟩) hS (Sub.cons rfl (Sub.cons rfl (Sub.cons rfl (Sub.cons rfl (Sub.cons rfl (Sub.cons rfl Sub.nil)))))) (⟨Nat.zero_le _, by show max2 0 (p.height - S.c.drop) = hlo S p + ((0 : Nat) : Int); unfold hlo; omega⟩) (by simp [rowN]) (fun _ h => h) (fun z W a hφ hS => ?_)
  obtain ⟨j, h'⟩ := z
  dsimp only [List.cons_append, List.nil_append] at hS hφ
  obtain ⟨hj, rfl⟩ := hφ
  have hjm := hcnt_most S e p (vlo p + ((k : Nat) : Int))
  have hmh := min2_eq 12 (p.height + ix (S.rate e) (vlo p + ((k : Nat) : Int)).toNat)
  refine wpIn_seq ?_
  refine wpIn_seq ?_
  have hlt0 := fun B hB => hS.lt (b := B) hB
  refine st_mix (k := 16) (by kernel_rfl) (by kernel_rfl) hS rfl rfl ?_
  refine mx_v (fun a W hS hB => run_move hS rfl) <| mx_v (fun a W hS hB => run_fieldAddrE fe38_2 hS rfl) <| mx_v (fun a W hS hB => run_load_cell Tryz.isAgg3 hS rfl (M1 _ hS.now.2 2 _ rfl)) <| mx_v (fun a W hS hB => run_fieldAddrE fe111_0 hS rfl) <| mx_v (fun a W hS hB => run_load_cell Tryz.isAgg109 hS rfl (M2 _ hS.now.2 0 _ rfl)) <| mx_v (fun a W hS hB => run_load_cell Tryz.isAgg3 hS rfl (M3 _ hS.now.2)) <| mx_v (fun a W hS hB => run_nilCheck hS rfl) <| mx_v (fun a W hS hB => run_fieldAddrE fe143_1 hS rfl) <| mx_v (fun a W hS hB => run_idxArrE Tryz.underlying141 Tryz.sizeOf22 hS rfl rfl rfl (by cases e <;> decide)) <| mx_v (fun a W hS hB => run_load_cell Tryz.isAgg22 hS rfl ((fun W hC => (M4 W hC).rateCell e) _ hS.now.2)) <| mx_v (fun a W hS hB => run_move hS rfl) <| ?_
  obtain ⟨ad0, hA0, hL0⟩ := sl_int (fun W hC => (M4 W hC).rate e) hS.now.2 (i := (vlo p + ((k : Nat) : Int))) (j := ((vlo p + ((k : Nat) : Int))).toNat) (by omega) (by omega)
  refine mx_v (fun a W hS hB => run_indexAddr Tryz.underlying22 Tryz.sizeOf3 hS rfl rfl hA0 (by omega) (by omega)) <| mx_v (fun a W hS hB => run_load_cell Tryz.isAgg3 hS rfl (hL0 _ hS.now.2)) <| mx_v (fun a W hS hB => run_add (t := p.height + ((ix (S.rate e) (((vlo p + ((k : Nat) : Int))).toNat)))) hS rfl rfl (rfl) (by have := hP.rate e (vlo p + ((k : Nat) : Int)).toNat; omega) (by have := hP.rate e (vlo p + ((k : Nat) : Int)).toNat; omega)) <| mx_v (fun a W hS hB => run_min hS rfl rfl) <| mx_v (fun a W hS hB => run_bin hS rfl rfl rfl) <| ?_
  refine mx_end fun a W bs us hS hB hL => ?_
  dsimp only [kall, ball, List.cons_append, List.nil_append] at hS
  refine wl_nil ?_
  refine st_cond hS rfl (fun hc2 => ?_) (fun hc2 => ?_)
  ·
   try simp only [ty] at hc2
   have hj2 : j < hcnt S e p (vlo p + ((k : Nat) : Int)) := by unfold hcnt; omega
   have hwr := hs.rowI (vlo p + ((k : Nat) : Int))
   have hwn : (wkAt X.ys (vlo p + ((k : Nat) : Int)).toNat).2.length = S.c.drop.toNat + 1 := by rw [hwr]; exact hP.rowLenI (by omega) (by omega)
   have hwn2 : (X.ys.getD (vlo p + ((k : Nat) : Int)).toNat wkD).2.length = S.c.drop.toNat + 1 := hwn
   refine wpIn_skip ?_
   refine wpIn_seq ?_
   refine wpIn_block ?_
   refine wpIn_seq ?_
   refine wpIn_region_lit ?_
   refine st_v hS rfl rfl (run_fieldAddrE fe38_0 hS rfl) fun a hS => st_v hS rfl rfl (run_load_cell Tryz.isAgg3 hS rfl (M1 _ hS.now.2 0 _ rfl)) fun a hS => st_v hS rfl rfl (run_move hS rfl) fun a hS => st_v hS rfl rfl (run_add (t := p.x + ((vlo p + ((k : Nat) : Int)))) hS rfl rfl (rfl) (by omega) (by omega)) fun a hS => st_v hS rfl rfl (run_move hS rfl) fun a hS => st_v hS rfl rfl (run_move hS rfl) fun a hS => st_v hS rfl rfl (run_build (pv := [(0, .int .i64 _), (1, .int .i64 _), (2, .int .i64 _)]) (fun W => bd38_0_1_2 _ _ _ W) hS rfl) fun a hS => st_alloc_agg Tryz.zeroValue38 hS rfl rfl fun W a b0 hS => st_store (i := 0) Tryz.sizeOf38 hS rfl rfl rfl rfl rfl rfl rfl rfl rfl fun W a hS => wl_nil ?_
   refine wpIn_seq ?_
   have hS := hS.sub (κ' := [(0, _), (1, _), (2, _), (3, _), (5, _), (6, _), (7, _)]) (Sub.cons rfl (Sub.cons rfl (Sub.cons rfl (Sub.cons rfl (Sub.cons rfl (Sub.cons rfl (Sub.cons rfl Sub.nil)))))))
   refine st_cut 8 (.bool (endsB S p (qAt S p k j))) hS ?_ (fun W a hS => ?_)
   ·
    refine st_draw (by kernel_rfl) (by kernel_rfl) hS ?_
    refine qt_v hS rfl rfl (fun W hB hS => run_move hS rfl) fun a hS => qt_v hS rfl rfl (fun W hB hS => run_bin hS rfl rfl rfl) fun a hS => qt_v hS rfl rfl (fun W hB hS => run_move hS rfl) fun a hS => ?_
    refine st_split (d := 65) hS rfl (fun hc3 hS => ?_) (fun hc3 hS => ?_)
    ·
     try simp only [ty] at hc3
     refine qt_v hS (hS.wanted rfl rfl rfl) rfl (fun W hB hS => run_fieldAddrE fe38_2 hS rfl) fun a hS => qt_v hS (hS.wanted rfl rfl rfl) rfl (fun W hB hS => run_load_cell Tryz.isAgg3 hS rfl (M1 _ hS.now.2 2 _ rfl)) fun a hS => qt_v hS (hS.wanted rfl rfl rfl) rfl (fun W hB hS => run_bin hS rfl rfl rfl) fun a hS => qt_v hS (hS.wanted rfl rfl rfl) rfl (fun W hB hS => run_move hS rfl) fun a hS => ?_
     refine st_split (d := 69) hS rfl (fun hc4 hS => ?_) (fun hc4 hS => ?_)
     ·
      try simp only [ty] at hc4
      refine qt_skip hS (hS.unwanted rfl rfl rfl rfl) rfl fun a hS => qt_skip hS (hS.unwanted rfl rfl rfl rfl) rfl fun a hS => qt_skip hS (hS.unwanted rfl rfl rfl rfl) rfl fun a hS => qt_skip hS (hS.unwanted rfl rfl rfl rfl) rfl fun a hS => qt_skip hS (hS.unwanted rfl rfl rfl rfl) rfl fun a hS => qt_skip hS (hS.unwanted rfl rfl rfl rfl) rfl fun a hS => qt_skip hS (hS.unwanted rfl rfl rfl rfl) rfl fun a hS => qt_skip hS (hS.unwanted rfl rfl rfl rfl) rfl fun a hS => qt_skip hS (hS.unwanted rfl rfl rfl rfl) rfl fun a hS => qt_v hS (hS.wanted rfl rfl rfl) rfl (fun W hB hS => run_pick_t hS rfl rfl) fun a hS => qt_v hS (hS.wanted rfl rfl rfl) rfl (fun W hB hS => run_move hS rfl) fun a hS => qt_skip hS (hS.unwanted rfl rfl rfl rfl) rfl fun a hS => qt_skip hS (hS.unwanted rfl rfl rfl rfl) rfl fun a hS => qt_skip hS (hS.unwanted rfl rfl rfl rfl) rfl fun a hS => qt_skip hS (hS.unwanted rfl rfl rfl rfl) rfl fun a hS => qt_v hS (hS.wanted rfl rfl rfl) rfl (fun W hB hS => run_pick_t hS rfl rfl) fun a hS => qt_v hS rfl rfl (fun W hB hS => run_pick_t hS rfl rfl) fun a hS => qt_v hS rfl rfl (fun W hB hS => run_assign hS rfl) fun a hS => qt_nil hS fun W hS => ?_
      have hT : true = (endsB S p (qAt S p k j)) := by cases hd : downP S (qAt S p k j) <;> simp [endsB, hd, hc1, hc2, hc3, hc4] <;> (intros; omega)
      exact cut_end (hS.sub (Sub.cons (congrArg (fun b => some (Value.bool b)) hT) (Sub.cons rfl (Sub.cons rfl (Sub.cons rfl (Sub.cons rfl (Sub.cons rfl (Sub.cons rfl (Sub.cons rfl Sub.nil)))))))))
     ·
      try simp only [ty] at hc4
      refine qt_v hS (hS.wanted rfl rfl rfl) rfl (fun W hB hS => run_fieldAddrE fe38_2 hS rfl) fun a hS => qt_v hS (hS.wanted rfl rfl rfl) rfl (fun W hB hS => run_load_cell Tryz.isAgg3 hS rfl (M1 _ hS.now.2 2 _ rfl)) fun a hS => qt_v hS (hS.wanted rfl rfl rfl) rfl (fun W hB hS => run_fieldAddrE fe111_0 hS rfl) fun a hS => qt_v hS (hS.wanted rfl rfl rfl) rfl (fun W hB hS => run_load_cell Tryz.isAgg109 hS rfl (M2 _ hS.now.2 0 _ rfl)) fun a hS => qt_v hS (hS.wanted rfl rfl rfl) rfl (fun W hB hS => run_nilCheck hS rfl) fun a hS => qt_v hS (hS.wanted rfl rfl rfl) rfl (fun W hB hS => run_fieldAddrE fe143_0 hS rfl) fun a hS => qt_v hS (hS.wanted rfl rfl rfl) rfl (fun W hB hS => run_fieldAddrE fe29_7 hS rfl) fun a hS => qt_v hS (hS.wanted rfl rfl rfl) rfl (fun W hB hS => run_load_cell Tryz.isAgg3 hS rfl (by rw [add_add]; exact (fun W hC => (M4 W hC).cells) _ hS.now.2 32 _ rfl)) fun a hS => qt_v hS (hS.wanted rfl rfl rfl) rfl (fun W hB hS => run_bin hS rfl rfl rfl) fun a hS => qt_v hS (hS.wanted rfl rfl rfl) rfl (fun W hB hS => run_pick_f hS rfl rfl) fun a hS => qt_v hS (hS.wanted rfl rfl rfl) rfl (fun W hB hS => run_move hS rfl) fun a hS => ?_
      refine st_split (d := 80) hS rfl (fun hc5 hS => ?_) (fun hc5 hS => ?_)
      ·
       try simp only [ty] at hc5
       refine qt_skip hS (hS.unwanted rfl rfl rfl rfl) rfl fun a hS => qt_skip hS (hS.unwanted rfl rfl rfl rfl) rfl fun a hS => qt_skip hS (hS.unwanted rfl rfl rfl rfl) rfl fun a hS => qt_skip hS (hS.unwanted rfl rfl rfl rfl) rfl fun a hS => qt_v hS (hS.wanted rfl rfl rfl) rfl (fun W hB hS => run_pick_t hS rfl rfl) fun a hS => qt_v hS rfl rfl (fun W hB hS => run_pick_t hS rfl rfl) fun a hS => qt_v hS rfl rfl (fun W hB hS => run_assign hS rfl) fun a hS => qt_nil hS fun W hS => ?_
       have hT : true = (endsB S p (qAt S p k j)) := by cases hd : downP S (qAt S p k j) <;> simp [endsB, hd, hc1, hc2, hc3, hc4, hc5] <;> (intros; omega)
       exact cut_end (hS.sub (Sub.cons (congrArg (fun b => some (Value.bool b)) hT) (Sub.cons rfl (Sub.cons rfl (Sub.cons rfl (Sub.cons rfl (Sub.cons rfl (Sub.cons rfl (Sub.cons rfl Sub.nil)))))))))
      ·
       try simp only [ty] at hc5
       refine qt_v hS (hS.wanted rfl rfl rfl) rfl (fun W hB hS => run_load_ext Tryz.isAgg111 Tryz.sizeOf111 hS rfl rfl (M2 _ hS.now.2)) fun a hS => qt_v hS (hS.wanted rfl rfl rfl) rfl (fun W hB hS => run_load_all (i := 0) Tryz.isAgg38 Tryz.sizeOf38 hS rfl rfl rfl) fun a hS => qt_call hS (hS.wanted rfl rfl rfl) rfl Tryz.call134 rfl (fun W hB hS => engine_down X S (qAt S p k j) (M4 _ hS.now.2) (by assumption)) fun a hS => qt_v hS (hS.wanted rfl rfl rfl) rfl (fun W hB hS => run_not hS rfl) fun a hS => qt_v hS (hS.wanted rfl rfl rfl) rfl (fun W hB hS => run_pick_f hS rfl rfl) fun a hS => qt_v hS rfl rfl (fun W hB hS => run_pick_t hS rfl rfl) fun a hS => qt_v hS rfl rfl (fun W hB hS => run_assign hS rfl) fun a hS => qt_nil hS fun W hS => ?_
       have hT : (!(downP S (qAt S p k j))) = (endsB S p (qAt S p k j)) := by cases hd : downP S (qAt S p k j) <;> simp [endsB, hd, hc1, hc2, hc3, hc4, hc5] <;> (intros; omega)
       exact cut_end (hS.sub (Sub.cons (congrArg (fun b => some (Value.bool b)) hT) (Sub.cons rfl (Sub.cons rfl (Sub.cons rfl (Sub.cons rfl (Sub.cons rfl (Sub.cons rfl (Sub.cons rfl Sub.nil)))))))))
    ·
     try simp only [ty] at hc3
     refine qt_skip hS (hS.unwanted rfl rfl rfl rfl) rfl fun a hS => qt_skip hS (hS.unwanted rfl rfl rfl rfl) rfl fun a hS => qt_skip hS (hS.unwanted rfl rfl rfl rfl) rfl fun a hS => qt_skip hS (hS.unwanted rfl rfl rfl rfl) rfl fun a hS => qt_skip hS (hS.unwantedU rfl rfl rfl) rfl fun a hS => qt_skip hS (hS.unwantedU rfl rfl rfl) rfl fun a hS => qt_skip hS (hS.unwantedU rfl rfl rfl) rfl fun a hS => qt_skip hS (hS.unwantedU rfl rfl rfl) rfl fun a hS => qt_skip hS (hS.unwantedU rfl rfl rfl) rfl fun a hS => qt_skip hS (hS.unwantedU rfl rfl rfl) rfl fun a hS => qt_skip hS (hS.unwantedU rfl rfl rfl) rfl fun a hS => qt_skip hS (hS.unwantedU rfl rfl rfl) rfl fun a hS => qt_skip hS (hS.unwantedU rfl rfl rfl) rfl fun a hS => qt_skip hS (hS.unwanted rfl rfl rfl rfl) rfl fun a hS => qt_skip hS (hS.unwanted rfl rfl rfl rfl) rfl fun a hS => qt_skip hS (hS.unwantedU rfl rfl rfl) rfl fun a hS => qt_skip hS (hS.unwantedU rfl rfl rfl) rfl fun a hS => qt_skip hS (hS.unwantedU rfl rfl rfl) rfl fun a hS => qt_skip hS (hS.unwantedU rfl rfl rfl) rfl fun a hS => qt_skip hS (hS.unwanted rfl rfl rfl rfl) rfl fun a hS => qt_v hS rfl rfl (fun W hB hS => run_pick_f hS rfl rfl) fun a hS => qt_v hS rfl rfl (fun W hB hS => run_assign hS rfl) fun a hS => qt_nil hS fun W hS => ?_
     have hT : false = (endsB S p (qAt S p k j)) := by cases hd : downP S (qAt S p k j) <;> simp [endsB, hd, hc1, hc2, hc3] <;> (intros; omega)
     exact cut_end (hS.sub (Sub.cons (congrArg (fun b => some (Value.bool b)) hT) (Sub.cons rfl (Sub.cons rfl (Sub.cons rfl (Sub.cons rfl (Sub.cons rfl (Sub.cons rfl (Sub.cons rfl Sub.nil)))))))))
   ·
    refine wpIn_seq ?_
    have hS := hS.sub (κ' := [(0, _), (1, _), (2, _), (3, _), (5, _), (6, _), (7, _), (8, _)]) (Sub.cons rfl (Sub.cons rfl (Sub.cons rfl (Sub.cons rfl (Sub.cons rfl (Sub.cons rfl (Sub.cons rfl (Sub.cons rfl Sub.nil))))))))
    refine st_cut 9 (.bool (sinksB S p (qAt S p k j))) hS ?_ (fun W a hS => ?_)
    ·
     refine st_draw (by kernel_rfl) (by kernel_rfl) hS ?_
     refine qt_v hS rfl rfl (fun W hB hS => run_move hS rfl) fun a hS => qt_v hS rfl rfl (fun W hB hS => run_bin hS rfl rfl rfl) fun a hS => qt_v hS rfl rfl (fun W hB hS => run_move hS rfl) fun a hS => ?_
     refine st_split (d := 89) hS rfl (fun hc6 hS => ?_) (fun hc6 hS => ?_)
     ·
      try simp only [ty] at hc6
      refine qt_v hS (hS.wanted rfl rfl rfl) rfl (fun W hB hS => run_move hS rfl) fun a hS => qt_v hS (hS.wanted rfl rfl rfl) rfl (fun W hB hS => run_fieldAddrE fe38_2 hS rfl) fun a hS => qt_v hS (hS.wanted rfl rfl rfl) rfl (fun W hB hS => run_load_cell Tryz.isAgg3 hS rfl (M1 _ hS.now.2 2 _ rfl)) fun a hS => qt_v hS (hS.wanted rfl rfl rfl) rfl (fun W hB hS => run_bin hS rfl rfl rfl) fun a hS => qt_v hS rfl rfl (fun W hB hS => run_pick_t hS rfl rfl) fun a hS => qt_v hS rfl rfl (fun W hB hS => run_move hS rfl) fun a hS => ?_
      refine st_split (d := 95) hS rfl (fun hc7 hS => ?_) (fun hc7 hS => ?_)
      ·
       try simp only [ty] at hc7
       refine qt_v hS (hS.wanted rfl rfl rfl) rfl (fun W hB hS => run_fieldAddrE fe111_0 hS rfl) fun a hS => qt_v hS (hS.wanted rfl rfl rfl) rfl (fun W hB hS => run_load_cell Tryz.isAgg109 hS rfl (M2 _ hS.now.2 0 _ rfl)) fun a hS => qt_v hS (hS.wanted rfl rfl rfl) rfl (fun W hB hS => run_nilCheck hS rfl) fun a hS => qt_v hS (hS.wanted rfl rfl rfl) rfl (fun W hB hS => run_fieldAddrE fe143_2 hS rfl) fun a hS => qt_v hS (hS.wanted rfl rfl rfl) rfl (fun W hB hS => run_load_cell Tryz.isAgg95 hS rfl ((fun W hC => (M4 W hC).cells) _ hS.now.2 35 _ rfl)) fun a hS => qt_v hS (hS.wanted rfl rfl rfl) rfl (fun W hB hS => run_move hS rfl) fun a hS => ?_
       obtain ⟨ad1, hA1, hL1⟩ := sl_of (fun W hC => (M4 W hC).wake) hS.now.2 wkD (i := (vlo p + ((k : Nat) : Int))) (j := ((vlo p + ((k : Nat) : Int))).toNat) (by omega) (by omega)
       refine qt_v hS (hS.wanted rfl rfl rfl) rfl (fun W hB hS => run_indexAddr Tryz.underlying95 Tryz.sizeOf178 hS rfl rfl hA1 (by omega) (by omega)) fun a hS => qt_v hS (hS.wanted rfl rfl rfl) rfl (fun W hB hS => run_load_cell Tryz.isAgg178 hS rfl (hL1 _ hS.now.2 0 _ rfl)) fun a hS => qt_v hS (hS.wanted rfl rfl rfl) rfl (fun W hB hS => run_fieldAddrE fe38_2 hS rfl) fun a hS => qt_v hS (hS.wanted rfl rfl rfl) rfl (fun W hB hS => run_load_cell Tryz.isAgg3 hS rfl (M1 _ hS.now.2 2 _ rfl)) fun a hS => qt_v hS (hS.wanted rfl rfl rfl) rfl (fun W hB hS => run_move hS rfl) fun a hS => qt_v hS (hS.wanted rfl rfl rfl) rfl (fun W hB hS => run_sub (t := p.height - ((hlo S p + ((j : Nat) : Int)))) hS rfl rfl (rfl) (by omega) (by omega)) fun a hS => ?_
       obtain ⟨ad2, hA2, hL2⟩ := sl_of (fun W hC => (fun W hC => (M4 W hC).rows) W hC (wkAt X.ys (((vlo p + ((k : Nat) : Int))).toNat)) (wkAt_mem (by omega))) hS.now.2 false (i := p.height - ((hlo S p + ((j : Nat) : Int)))) (j := (p.height - ((hlo S p + ((j : Nat) : Int)))).toNat) (by omega) (by omega)
       refine qt_v hS (hS.wanted rfl rfl rfl) rfl (fun W hB hS => run_indexAddr Tryz.underlying178 Tryz.sizeOf4 hS rfl rfl hA2 (by omega) (by omega)) fun a hS => qt_v hS (hS.wanted rfl rfl rfl) rfl (fun W hB hS => run_load_cell Tryz.isAgg4 hS rfl (hL2 _ hS.now.2 0 _ rfl)) fun a hS => qt_v hS rfl rfl (fun W hB hS => run_pick_t hS rfl rfl) fun a hS => qt_v hS rfl rfl (fun W hB hS => run_assign hS rfl) fun a hS => qt_nil hS fun W hS => ?_
       have hT : (((wkAt X.ys (((vlo p + ((k : Nat) : Int))).toNat)).2).getD ((p.height - ((hlo S p + ((j : Nat) : Int)))).toNat) false) = (sinksB S p (qAt S p k j)) := by cases hd : (wakeRow S (vlo p + ((k : Nat) : Int))).getD (p.height - (hlo S p + ((j : Nat) : Int))).toNat false <;> simp [sinksB, hwr, hd, hc1, hc2, hc6, hc7] <;> (intros; omega)
       exact cut_end (hS.sub (Sub.cons (congrArg (fun b => some (Value.bool b)) hT) (Sub.cons rfl (Sub.cons rfl (Sub.cons rfl (Sub.cons rfl (Sub.cons rfl (Sub.cons rfl (Sub.cons rfl (Sub.cons rfl Sub.nil))))))))))
      ·
       try simp only [ty] at hc7
       refine qt_skip hS (hS.unwanted rfl rfl rfl rfl) rfl fun a hS => qt_skip hS (hS.unwanted rfl rfl rfl rfl) rfl fun a hS => qt_skip hS (hS.unwanted rfl rfl rfl rfl) rfl fun a hS => qt_skip hS (hS.unwanted rfl rfl rfl rfl) rfl fun a hS => qt_skip hS (hS.unwanted rfl rfl rfl rfl) rfl fun a hS => qt_skip hS (hS.unwanted rfl rfl rfl rfl) rfl fun a hS => qt_skip hS (hS.unwanted rfl rfl rfl rfl) rfl fun a hS => qt_skip hS (hS.unwanted rfl rfl rfl rfl) rfl fun a hS => qt_skip hS (hS.unwanted rfl rfl rfl rfl) rfl fun a hS => qt_skip hS (hS.unwanted rfl rfl rfl rfl) rfl fun a hS => qt_skip hS (hS.unwanted rfl rfl rfl rfl) rfl fun a hS => qt_skip hS (hS.unwanted rfl rfl rfl rfl) rfl fun a hS => qt_skip hS (hS.unwanted rfl rfl rfl rfl) rfl fun a hS => qt_skip hS (hS.unwanted rfl rfl rfl rfl) rfl fun a hS => qt_v hS rfl rfl (fun W hB hS => run_pick_f hS rfl rfl) fun a hS => qt_v hS rfl rfl (fun W hB hS => run_assign hS rfl) fun a hS => qt_nil hS fun W hS => ?_
       have hT : false = (sinksB S p (qAt S p k j)) := by cases hd : (wakeRow S (vlo p + ((k : Nat) : Int))).getD (p.height - (hlo S p + ((j : Nat) : Int))).toNat false <;> simp [sinksB, hwr, hd, hc1, hc2, hc6, hc7] <;> (intros; omega)
       exact cut_end (hS.sub (Sub.cons (congrArg (fun b => some (Value.bool b)) hT) (Sub.cons rfl (Sub.cons rfl (Sub.cons rfl (Sub.cons rfl (Sub.cons rfl (Sub.cons rfl (Sub.cons rfl (Sub.cons rfl Sub.nil))))))))))
     ·
      try simp only [ty] at hc6
      refine qt_skip hS (hS.unwanted rfl rfl rfl rfl) rfl fun a hS => qt_skip hS (hS.unwanted rfl rfl rfl rfl) rfl fun a hS => qt_skip hS (hS.unwanted rfl rfl rfl rfl) rfl fun a hS => qt_skip hS (hS.unwanted rfl rfl rfl rfl) rfl fun a hS => qt_v hS rfl rfl (fun W hB hS => run_pick_f hS rfl rfl) fun a hS => qt_v hS rfl rfl (fun W hB hS => run_move hS rfl) fun a hS => qt_skip hS (hS.unwanted rfl rfl rfl rfl) rfl fun a hS => qt_skip hS (hS.unwanted rfl rfl rfl rfl) rfl fun a hS => qt_skip hS (hS.unwanted rfl rfl rfl rfl) rfl fun a hS => qt_skip hS (hS.unwanted rfl rfl rfl rfl) rfl fun a hS => qt_skip hS (hS.unwanted rfl rfl rfl rfl) rfl fun a hS => qt_skip hS (hS.unwanted rfl rfl rfl rfl) rfl fun a hS => qt_skip hS (hS.unwanted rfl rfl rfl rfl) rfl fun a hS => qt_skip hS (hS.unwanted rfl rfl rfl rfl) rfl fun a hS => qt_skip hS (hS.unwanted rfl rfl rfl rfl) rfl fun a hS => qt_skip hS (hS.unwanted rfl rfl rfl rfl) rfl fun a hS => qt_skip hS (hS.unwanted rfl rfl rfl rfl) rfl fun a hS => qt_skip hS (hS.unwanted rfl rfl rfl rfl) rfl fun a hS => qt_skip hS (hS.unwanted rfl rfl rfl rfl) rfl fun a hS => qt_skip hS (hS.unwanted rfl rfl rfl rfl) rfl fun a hS => qt_v hS rfl rfl (fun W hB hS => run_pick_f hS rfl rfl) fun a hS => qt_v hS rfl rfl (fun W hB hS => run_assign hS rfl) fun a hS => qt_nil hS fun W hS => ?_
      have hT : false = (sinksB S p (qAt S p k j)) := by cases hd : (wakeRow S (vlo p + ((k : Nat) : Int))).getD (p.height - (hlo S p + ((j : Nat) : Int))).toNat false <;> simp [sinksB, hwr, hd, hc1, hc2, hc6] <;> (intros; omega)
      exact cut_end (hS.sub (Sub.cons (congrArg (fun b => some (Value.bool b)) hT) (Sub.cons rfl (Sub.cons rfl (Sub.cons rfl (Sub.cons rfl (Sub.cons rfl (Sub.cons rfl (Sub.cons rfl (Sub.cons rfl Sub.nil))))))))))
    ·
     refine wpIn_seq ?_
     refine wpIn_region_lit ?_
     refine st_v hS rfl rfl (run_fieldAddr fa38_0 hS rfl) fun a hS => st_v hS rfl rfl (run_load_one (i := 0) Tryz.isAgg3 hS rfl rfl rfl) fun a hS => st_v hS rfl rfl (run_bin hS rfl rfl rfl) fun a hS => st_v hS rfl rfl (run_move hS rfl) fun a hS => ?_
     refine st_split (d := 114) hS rfl (fun hc8 hS => ?_) (fun hc8 hS => ?_)
     ·
      try simp only [ty] at hc8
      refine st_v hS (hS.wanted rfl rfl rfl) rfl (run_move hS rfl) fun a hS => st_v hS (hS.wanted rfl rfl rfl) rfl (run_not hS rfl) fun a hS => st_v hS rfl rfl (run_pick_t hS rfl rfl) fun a hS => st_v hS rfl rfl (run_move hS rfl) fun a hS => ?_
      refine st_split (d := 118) hS rfl (fun hc9 hS => ?_) (fun hc9 hS => ?_)
      ·
       try simp only [ty] at hc9
       refine st_v hS (hS.wanted rfl rfl rfl) rfl (run_move hS rfl) fun a hS => st_v hS (hS.wanted rfl rfl rfl) rfl (run_not hS rfl) fun a hS => st_v hS rfl rfl (run_pick_t hS rfl rfl) fun a hS => st_v hS rfl rfl (run_move hS rfl) fun a hS => ?_
       refine st_split (d := 122) hS rfl (fun hc10 hS => ?_) (fun hc10 hS => ?_)
       ·
        try simp only [ty] at hc10
        refine st_v hS (hS.wanted rfl rfl rfl) rfl (run_load_ext Tryz.isAgg111 Tryz.sizeOf111 hS rfl rfl (M2 _ hS.now.2)) fun a hS => st_v hS (hS.wanted rfl rfl rfl) rfl (run_load_ext Tryz.isAgg38 Tryz.sizeOf38 hS rfl rfl (M1 _ hS.now.2)) fun a hS => st_v hS (hS.wanted rfl rfl rfl) rfl (run_load_all (i := 0) Tryz.isAgg38 Tryz.sizeOf38 hS rfl rfl rfl) fun a hS => st_call (engine_clear X S p (qAt S p k j) (M4 _ hS.now.2) (by assumption)) Tryz.call198 hS (hS.wanted rfl rfl rfl) rfl rfl fun v W a hR hB hlt hS => ?_
        subst hR
        refine st_v hS rfl rfl (run_pick_t hS rfl rfl) fun a hS => st_v hS rfl rfl (run_move hS rfl) fun a hS => ?_
        refine st_split (d := 128) hS rfl (fun hc11 hS => ?_) (fun hc11 hS => ?_)
        ·
         try simp only [ty] at hc11
         refine st_v hS (hS.wanted rfl rfl rfl) rfl (run_move hS rfl) fun a hS => st_v hS (hS.wanted rfl rfl rfl) rfl (run_load_all (i := 0) Tryz.isAgg38 Tryz.sizeOf38 hS rfl rfl rfl) fun a hS => ?_
         have hS := hS.drop (l' := []) (List.nil_sublist _)
         refine st_yield (pre := stepsN S e p k ++ rowN S p (vlo p + ((k : Nat) : Int)) j) (z := (qAt S p k j)) hS (fun _ h => h) hJ hJx (fun A B h hk => h.kp hk hF h1 h2 h3) hY (by have := steps_few (e := e) htop.2 hk (show j ≤ 13 by omega); exact this) (hS.wanted rfl rfl rfl) rfl rfl (by rw [clV_of (steps_valid (e := e) hp (mem_steps.2 ⟨by simp [stepOk, hc1, hc2, hc8, hc9, hc10, hc11] <;> (intros; omega), rfl, by dsimp only; omega, by dsimp only; omega⟩))]; rfl) (fun W a hS => ?_) (fun W a hS => ?_)
         ·
          refine st_v hS (hS.wanted rfl rfl rfl) rfl (run_not hS rfl) fun a hS => st_v hS rfl rfl (run_pick_t hS rfl rfl) fun a hS => wl_nil ?_
          refine st_cond_f hS rfl ?_
          refine wpIn_skip ?_
          refine wpIn_region_lit ?_
          refine st_v hS rfl rfl (run_move hS rfl) fun a hS => st_v hS rfl rfl (run_add (t := ((hlo S p + ((j : Nat) : Int))) + 1) hS rfl rfl (rfl) (by omega) (by omega)) fun a hS => st_v hS rfl rfl (run_assign hS rfl) fun a hS => wl_nil ?_
          have hS := hS.sub (κ' := [(0, _), (1, _), (2, _), (3, _), (5, _), (6, _), (7, _), (8, _), (9, _)]) (Sub.cons rfl (Sub.cons rfl (Sub.cons rfl (Sub.cons rfl (Sub.cons rfl (Sub.cons rfl (Sub.cons rfl (Sub.cons rfl (Sub.cons rfl Sub.nil)))))))))
          refine ⟨⟨j + 1, hlo S p + ((j : Nat) : Int) + 1⟩, ⟨⟨by dsimp only; omega, by dsimp only; omega⟩, by dsimp only; omega⟩, ((hS.sub (Sub.cons rfl (Sub.cons rfl (Sub.cons rfl (Sub.cons rfl (Sub.cons rfl (Sub.cons rfl Sub.nil))))))).less (fun _ h => ?_)).rebase⟩
          have e0 : stepOk S p (qAt S p k j) = true := by simp [stepOk, hc1, hc2, hc8, hc9, hc10, hc11] <;> (intros; omega)
          rw [rowN_next, e0]; simpa using h
         ·
          refine st_v hS (hS.wanted rfl rfl rfl) rfl (run_not hS rfl) fun a hS => st_v hS rfl rfl (run_pick_t hS rfl rfl) fun a hS => wl_nil ?_
          refine st_cond_t hS rfl ?_
          refine wpIn_ret ?_
          repeat (first | refine q_ret ?_ | refine q_block_ret ?_)
          refine hS.doneI (res0 (fn := Tryz.f197)  rfl ) ?_
          exact ⟨⟨_, rfl⟩, .inr ⟨_, trivial, hS.now⟩⟩
        ·
         try simp only [ty] at hc11
         refine st_skip hS (hS.unwanted rfl rfl rfl rfl) rfl fun a hS => st_skip hS (hS.unwanted rfl rfl rfl rfl) rfl fun a hS => st_skip hS (hS.unwanted rfl rfl rfl rfl) rfl fun a hS => st_skip hS (hS.unwanted rfl rfl rfl rfl) rfl fun a hS => st_v hS rfl rfl (run_pick_f hS rfl rfl) fun a hS => wl_nil ?_
         refine st_cond_f hS rfl ?_
         refine wpIn_skip ?_
         refine wpIn_region_lit ?_
         refine st_v hS rfl rfl (run_move hS rfl) fun a hS => st_v hS rfl rfl (run_add (t := ((hlo S p + ((j : Nat) : Int))) + 1) hS rfl rfl (rfl) (by omega) (by omega)) fun a hS => st_v hS rfl rfl (run_assign hS rfl) fun a hS => wl_nil ?_
         have hS := hS.sub (κ' := [(0, _), (1, _), (2, _), (3, _), (5, _), (6, _), (7, _), (8, _), (9, _)]) (Sub.cons rfl (Sub.cons rfl (Sub.cons rfl (Sub.cons rfl (Sub.cons rfl (Sub.cons rfl (Sub.cons rfl (Sub.cons rfl (Sub.cons rfl Sub.nil)))))))))
         refine ⟨⟨j + 1, hlo S p + ((j : Nat) : Int) + 1⟩, ⟨⟨by dsimp only; omega, by dsimp only; omega⟩, by dsimp only; omega⟩, (((hS.sub (Sub.cons rfl (Sub.cons rfl (Sub.cons rfl (Sub.cons rfl (Sub.cons rfl (Sub.cons rfl Sub.nil))))))).drop (l' := []) (List.nil_sublist _)).less (fun _ h => ?_)).rebase⟩
         have e0 : stepOk S p (qAt S p k j) = false := by simp [stepOk, hc1, hc2, hc8, hc9, hc10, hc11] <;> (intros; omega)
         rw [rowN_next, e0]; simpa using h
       ·
        try simp only [ty] at hc10
        refine st_skip hS (hS.unwanted rfl rfl rfl rfl) rfl fun a hS => st_skip hS (hS.unwanted rfl rfl rfl rfl) rfl fun a hS => st_skip hS (hS.unwanted rfl rfl rfl rfl) rfl fun a hS => st_skip hS (hS.unwanted rfl rfl rfl rfl) rfl fun a hS => st_v hS rfl rfl (run_pick_f hS rfl rfl) fun a hS => st_v hS rfl rfl (run_move hS rfl) fun a hS => st_skip hS (hS.unwanted rfl rfl rfl rfl) rfl fun a hS => st_skip hS (hS.unwanted rfl rfl rfl rfl) rfl fun a hS => st_skip hS (hS.unwanted rfl rfl rfl rfl) rfl fun a hS => st_skip hS (hS.unwanted rfl rfl rfl rfl) rfl fun a hS => st_v hS rfl rfl (run_pick_f hS rfl rfl) fun a hS => wl_nil ?_
        refine st_cond_f hS rfl ?_
        refine wpIn_skip ?_
        refine wpIn_region_lit ?_
        refine st_v hS rfl rfl (run_move hS rfl) fun a hS => st_v hS rfl rfl (run_add (t := ((hlo S p + ((j : Nat) : Int))) + 1) hS rfl rfl (rfl) (by omega) (by omega)) fun a hS => st_v hS rfl rfl (run_assign hS rfl) fun a hS => wl_nil ?_
        have hS := hS.sub (κ' := [(0, _), (1, _), (2, _), (3, _), (5, _), (6, _), (7, _), (8, _), (9, _)]) (Sub.cons rfl (Sub.cons rfl (Sub.cons rfl (Sub.cons rfl (Sub.cons rfl (Sub.cons rfl (Sub.cons rfl (Sub.cons rfl (Sub.cons rfl Sub.nil)))))))))
        refine ⟨⟨j + 1, hlo S p + ((j : Nat) : Int) + 1⟩, ⟨⟨by dsimp only; omega, by dsimp only; omega⟩, by dsimp only; omega⟩, (((hS.sub (Sub.cons rfl (Sub.cons rfl (Sub.cons rfl (Sub.cons rfl (Sub.cons rfl (Sub.cons rfl Sub.nil))))))).drop (l' := []) (List.nil_sublist _)).less (fun _ h => ?_)).rebase⟩
        have e0 : stepOk S p (qAt S p k j) = false := by simp [stepOk, hc1, hc2, hc8, hc9, hc10] <;> (intros; omega)
        rw [rowN_next, e0]; simpa using h
      ·
       try simp only [ty] at hc9
       refine st_skip hS (hS.unwanted rfl rfl rfl rfl) rfl fun a hS => st_skip hS (hS.unwanted rfl rfl rfl rfl) rfl fun a hS => st_v hS rfl rfl (run_pick_f hS rfl rfl) fun a hS => st_v hS rfl rfl (run_move hS rfl) fun a hS => st_skip hS (hS.unwanted rfl rfl rfl rfl) rfl fun a hS => st_skip hS (hS.unwanted rfl rfl rfl rfl) rfl fun a hS => st_skip hS (hS.unwanted rfl rfl rfl rfl) rfl fun a hS => st_skip hS (hS.unwanted rfl rfl rfl rfl) rfl fun a hS => st_v hS rfl rfl (run_pick_f hS rfl rfl) fun a hS => st_v hS rfl rfl (run_move hS rfl) fun a hS => st_skip hS (hS.unwanted rfl rfl rfl rfl) rfl fun a hS => st_skip hS (hS.unwanted rfl rfl rfl rfl) rfl fun a hS => st_skip hS (hS.unwanted rfl rfl rfl rfl) rfl fun a hS => st_skip hS (hS.unwanted rfl rfl rfl rfl) rfl fun a hS => st_v hS rfl rfl (run_pick_f hS rfl rfl) fun a hS => wl_nil ?_
       refine st_cond_f hS rfl ?_
       refine wpIn_skip ?_
       refine wpIn_region_lit ?_
       refine st_v hS rfl rfl (run_move hS rfl) fun a hS => st_v hS rfl rfl (run_add (t := ((hlo S p + ((j : Nat) : Int))) + 1) hS rfl rfl (rfl) (by omega) (by omega)) fun a hS => st_v hS rfl rfl (run_assign hS rfl) fun a hS => wl_nil ?_
       have hS := hS.sub (κ' := [(0, _), (1, _), (2, _), (3, _), (5, _), (6, _), (7, _), (8, _), (9, _)]) (Sub.cons rfl (Sub.cons rfl (Sub.cons rfl (Sub.cons rfl (Sub.cons rfl (Sub.cons rfl (Sub.cons rfl (Sub.cons rfl (Sub.cons rfl Sub.nil)))))))))
       refine ⟨⟨j + 1, hlo S p + ((j : Nat) : Int) + 1⟩, ⟨⟨by dsimp only; omega, by dsimp only; omega⟩, by dsimp only; omega⟩, (((hS.sub (Sub.cons rfl (Sub.cons rfl (Sub.cons rfl (Sub.cons rfl (Sub.cons rfl (Sub.cons rfl Sub.nil))))))).drop (l' := []) (List.nil_sublist _)).less (fun _ h => ?_)).rebase⟩
       have e0 : stepOk S p (qAt S p k j) = false := by simp [stepOk, hc1, hc2, hc8, hc9] <;> (intros; omega)
       rw [rowN_next, e0]; simpa using h
     ·
      try simp only [ty] at hc8
      refine st_skip hS (hS.unwanted rfl rfl rfl rfl) rfl fun a hS => st_skip hS (hS.unwanted rfl rfl rfl rfl) rfl fun a hS => st_v hS rfl rfl (run_pick_f hS rfl rfl) fun a hS => st_v hS rfl rfl (run_move hS rfl) fun a hS => st_skip hS (hS.unwanted rfl rfl rfl rfl) rfl fun a hS => st_skip hS (hS.unwanted rfl rfl rfl rfl) rfl fun a hS => st_v hS rfl rfl (run_pick_f hS rfl rfl) fun a hS => st_v hS rfl rfl (run_move hS rfl) fun a hS => st_skip hS (hS.unwanted rfl rfl rfl rfl) rfl fun a hS => st_skip hS (hS.unwanted rfl rfl rfl rfl) rfl fun a hS => st_skip hS (hS.unwanted rfl rfl rfl rfl) rfl fun a hS => st_skip hS (hS.unwanted rfl rfl rfl rfl) rfl fun a hS => st_v hS rfl rfl (run_pick_f hS rfl rfl) fun a hS => st_v hS rfl rfl (run_move hS rfl) fun a hS => st_skip hS (hS.unwanted rfl rfl rfl rfl) rfl fun a hS => st_skip hS (hS.unwanted rfl rfl rfl rfl) rfl fun a hS => st_skip hS (hS.unwanted rfl rfl rfl rfl) rfl fun a hS => st_skip hS (hS.unwanted rfl rfl rfl rfl) rfl fun a hS => st_v hS rfl rfl (run_pick_f hS rfl rfl) fun a hS => wl_nil ?_
      refine st_cond_f hS rfl ?_
      refine wpIn_skip ?_
      refine wpIn_region_lit ?_
      refine st_v hS rfl rfl (run_move hS rfl) fun a hS => st_v hS rfl rfl (run_add (t := ((hlo S p + ((j : Nat) : Int))) + 1) hS rfl rfl (rfl) (by omega) (by omega)) fun a hS => st_v hS rfl rfl (run_assign hS rfl) fun a hS => wl_nil ?_
      have hS := hS.sub (κ' := [(0, _), (1, _), (2, _), (3, _), (5, _), (6, _), (7, _), (8, _), (9, _)]) (Sub.cons rfl (Sub.cons rfl (Sub.cons rfl (Sub.cons rfl (Sub.cons rfl (Sub.cons rfl (Sub.cons rfl (Sub.cons rfl (Sub.cons rfl Sub.nil)))))))))
      refine ⟨⟨j + 1, hlo S p + ((j : Nat) : Int) + 1⟩, ⟨⟨by dsimp only; omega, by dsimp only; omega⟩, by dsimp only; omega⟩, (((hS.sub (Sub.cons rfl (Sub.cons rfl (Sub.cons rfl (Sub.cons rfl (Sub.cons rfl (Sub.cons rfl Sub.nil))))))).drop (l' := []) (List.nil_sublist _)).less (fun _ h => ?_)).rebase⟩
      have e0 : stepOk S p (qAt S p k j) = false := by simp [stepOk, hc1, hc2, hc8] <;> (intros; omega)
      rw [rowN_next, e0]; simpa using h
  ·
   try simp only [ty] at hc2
   refine wpIn_exit ?_
   refine wpIn_region_lit ?_
   refine st_v hS rfl rfl (run_move hS rfl) fun a hS => st_v hS rfl rfl (run_add (t := ((vlo p + ((k : Nat) : Int))) + 1) hS rfl rfl (rfl) (by omega) (by omega)) fun a hS => st_v hS rfl rfl (run_assign hS rfl) fun a hS => wl_nil ?_
   refine ⟨⟨k + 1, vlo p + ((k : Nat) : Int) + 1⟩, ⟨⟨by dsimp only; omega, by dsimp only; omega⟩, by dsimp only; omega⟩, ((hS.sub (Sub.cons rfl (Sub.cons rfl (Sub.cons rfl (Sub.cons rfl (Sub.cons rfl Sub.nil)))))).less (fun _ h => ?_)).rebase⟩
   have e0 : j = hcnt S e p (vlo p + ((k : Nat) : Int)) := by unfold hcnt at *; omega
   rw [stepsN_succ, ← e0]; exact h
 ·
  try simp only [ty] at hc1
  refine wpIn_exit ?_
  repeat (first | refine q_then_x (by simp) ?_ | refine q_block_in ?_ | refine q_block ?_)
  refine hS.doneIn (res0 (fn := Tryz.f197)  rfl ) ?_
  exact ⟨⟨_, rfl⟩, .inl ⟨_, by rw [show k = vcnt S p by unfold vcnt at *; omega]; rfl, hS.now.1⟩⟩
end Go.Proofs.YtdnodlgebpnfoaaGreat
namespace Go.Proofs.YtdnodlgebpnfoaaGreat
open Go Go.RowKit Go.Shelf Sw
def OwnQ {α : Type} (enc : α → List Value) (sz : Nat) (v : Value) (xs : List α) (cs : List Value) : Prop :=
  (v = .slice none 0 0 ∧ xs = [] ∧ cs = []) ∨ ∃ b off cap, v = .slice (some ⟨b, off, none⟩) xs.length cap ∧ xs.length ≤ cap ∧ cap ≤ maxLen ∧ off + cap * sz ≤ cs.length ∧ (cs.drop off).take (xs.length * sz) = xs.flatMap enc
theorem qflat_len {α : Type} {enc : α → List Value} {sz : Nat} (hl : ∀ x, (enc x).length = sz) : ∀ xs : List α, (xs.flatMap enc).length = xs.length * sz
  | [] => by simp
  | x :: xs => by rw [List.flatMap_cons, List.length_append, hl, qflat_len hl xs, List.length_cons, Nat.succ_mul]; omega
theorem qflat_get {α : Type} {enc : α → List Value} {sz : Nat} (hl : ∀ x, (enc x).length = sz) : ∀ (xs : List α) (j : Nat) (hj : j < xs.length) (i : Nat) (u : Value), (enc xs[j])[i]? = some u → (xs.flatMap enc)[j * sz + i]? = some u
  | x :: xs, 0, hj, i, u, hu => by
    have hi : i < sz := by rw [← hl x]; exact (List.getElem?_eq_some_iff.1 hu).1
    rw [List.flatMap_cons, Nat.zero_mul, Nat.zero_add, List.getElem?_append_left (by rw [hl]; exact hi)]; exact hu
  | x :: xs, j + 1, hj, i, u, hu => by
    rw [List.flatMap_cons, List.getElem?_append_right (by rw [hl, Nat.succ_mul]; omega), hl, show (j + 1) * sz + i - sz = j * sz + i by rw [Nat.succ_mul]; omega]
    exact qflat_get hl xs j (by simpa using hj) i u (by simpa using hu)
theorem OwnQ.of {α : Type} {enc : α → List Value} {sz : Nat} {v : Value} {xs : List α} {cs : List Value} (h : OwnL enc sz v xs cs) : OwnQ enc sz v xs cs := by
  rcases h.2 with ⟨rfl, h0, rfl⟩ | ⟨b, cap, rfl, hnc, hcm, hcl, hct⟩
  · exact .inl ⟨rfl, List.eq_nil_of_length_eq_zero h0, rfl⟩
  · exact .inr ⟨b, 0, cap, rfl, hnc, hcm, by omega, by simpa using hct⟩
theorem OwnQ.nil {α : Type} (enc : α → List Value) (sz : Nat) : OwnQ enc sz (.slice none 0 0) [] [] := .inl ⟨rfl, rfl, rfl⟩
theorem OwnQ.at_ {α : Type} {enc : α → List Value} {sz : Nat} (hl : ∀ x, (enc x).length = sz) {v : Value} {xs : List α} {cs : List Value} (h : OwnQ enc sz v xs cs) {j : Nat} (hj : j < xs.length) :
    ∃ b off cap, v = .slice (some ⟨b, off, none⟩) xs.length cap ∧ off + xs.length * sz ≤ cs.length ∧ ∀ i u, (enc xs[j])[i]? = some u → cs[off + j * sz + i]? = some u := by
  rcases h with ⟨_, rfl, _⟩ | ⟨b, off, cap, rfl, h1, h2, h3, h4⟩
  · simp at hj
  · refine ⟨b, off, cap, rfl, by have := Nat.mul_le_mul_right sz h1; omega, fun i u hu => ?_⟩
    have h5 := qflat_get hl xs j hj i u hu
    rw [← h4] at h5
    have h6 := (List.getElem?_eq_some_iff.1 h5).1
    rw [List.length_take] at h6
    rw [List.getElem?_take_of_lt (by omega), List.getElem?_drop] at h5
    rw [Nat.add_assoc]; exact h5
def adr : Value → Nat → Option Addr
  | .slice (some a) _ _, k => some (a.add k)
  | _, _ => none
theorem OwnQ.one1 {α : Type} {enc : α → List Value} {sz : Nat} {v : Value} {xs : List α} {cs : List Value} (h : OwnQ enc sz v xs cs) : v.oneCell' = true := by
  rcases h with ⟨rfl, _⟩ | ⟨b, off, cap, rfl, _⟩ <;> rfl
theorem OwnQ.cells1 {α : Type} {enc : α → List Value} {sz : Nat} {v : Value} {xs : List α} {cs : List Value} (h : OwnQ enc sz v xs cs) : v.cells.toList = [v] := by
  rcases h with ⟨rfl, _⟩ | ⟨b, off, cap, rfl, _⟩ <;> rfl
section
variable {P : Program} {r : Option Nat} {m : Nat} {ops : Array Oper} {Q : Exit → Act → World → Prop} {rest : List Oper} {o : Oper}
  {ds : List Nat} {w W W' : World} {n d : Nat} {a : Act} {κ : KV} {l l1 l2 L M A B C : List Blk} {Φ Ψ : World → Prop} {x y c : Operand} {v u : Value} {ty T T2 E : TypeId} {pos : String} {af : Array Edge} {g : Option (Nat × Bool)}
  {α : Type} {enc : α → List Value} {sz by_ : Nat} {xs ys : List α} {cs : List Value}
theorem St.pr0 (hS : St ds w W n a κ (L ++ (A ++ M)) Φ) : St ds w W n a κ ((L ++ M) ++ A) Φ := hS.perm (by rw [List.append_assoc]; exact (List.Perm.refl L).append List.perm_append_comm)
theorem St.qr0 (hS : St ds w W n a κ ((L ++ M) ++ A) Φ) : St ds w W n a κ (L ++ (A ++ M)) Φ := hS.perm (by rw [List.append_assoc]; exact (List.Perm.refl L).append List.perm_append_comm)
theorem St.pr1 (hS : St ds w W n a κ (L ++ (A ++ (B ++ M))) Φ) : St ds w W n a κ ((L ++ (A ++ M)) ++ B) Φ := hS.perm (by rw [List.append_assoc, List.append_assoc]; exact (List.Perm.refl L).append ((List.Perm.refl A).append List.perm_append_comm))
theorem St.qr1 (hS : St ds w W n a κ ((L ++ (A ++ M)) ++ B) Φ) : St ds w W n a κ (L ++ (A ++ (B ++ M))) Φ := hS.perm (by rw [List.append_assoc, List.append_assoc]; exact (List.Perm.refl L).append ((List.Perm.refl A).append List.perm_append_comm))
theorem St.pl2 (hS : St ds w W n a κ (L ++ (A ++ (B ++ C))) Φ) : St ds w W n a κ ((L ++ (A ++ B)) ++ C) Φ := by rw [List.append_assoc, List.append_assoc]; exact hS
theorem St.ql2 (hS : St ds w W n a κ ((L ++ (A ++ B)) ++ C) Φ) : St ds w W n a κ (L ++ (A ++ (B ++ C))) Φ := by rw [List.append_assoc, List.append_assoc] at hS; exact hS
theorem run_lenQ (hT : P.underlying T = some (.slice E)) (hS : St ds w W n a κ l Φ) (hO : OwnQ enc sz v xs cs) (hx : ev κ x = some v) : (execOp a.eval ⟨some d, .call { callee := .builtin .len, args := #[x], argTypes := #[T] }, ty, pos, af, g⟩).run P W = .ok (.value (.int .i64 ((xs.length : Nat) : Int))) W := by
  rcases hO with ⟨rfl, rfl, _⟩ | ⟨b, off, cap, rfl, _⟩
  · exact run_len_slice hT hS hx
  · exact run_len_slice hT hS hx
theorem run_idxQ (hl : ∀ x, (enc x).length = sz) (hT : P.underlying T = some (.slice E)) (hz : ∀ w, (sizeOf E).run P w = .ok sz w) (hS : St ds w W n a κ l Φ) (hO : OwnQ enc sz v xs cs) (hx : ev κ x = some v) {i : Int} {j : Nat} (hy : ev κ y = some (.int .i64 i)) (e : i = (j : Int)) (hj : j < xs.length) :
    (execOp a.eval ⟨some d, .indexAddr T x y, ty, pos, af, g⟩).run P W = .ok (.value (.pointer (adr v (j * sz)))) W := by
  obtain ⟨b, off, cap, rfl, _, _⟩ := hO.at_ hl hj
  subst e
  have := run_indexAddr (P := P) (d := d) (ty := ty) (pos := pos) (af := af) (g := g) hT hz hS hx hy rfl (Int.natCast_nonneg j) (by omega)
  rwa [Int.toNat_natCast] at this
theorem OwnQ.cell (hl : ∀ x, (enc x).length = sz) (hS : St ds w W n a κ l Φ) (hm : ∀ B ∈ rowB v cs T, B ∈ l) (hO : OwnQ enc sz v xs cs) {j : Nat} (hj : j < xs.length) : ∃ p, adr v (j * sz) = some p ∧ ∀ i u, (enc xs[j])[i]? = some u → W.cell? (p.add i) = some u := by
  obtain ⟨b, off, cap, rfl, _, h⟩ := hO.at_ hl hj
  refine ⟨⟨b, off + j * sz, none⟩, by simp [adr, add_off], fun i u hu => ?_⟩
  have hb := hS.blk ⟨b, cs, T⟩ (hm _ (List.mem_singleton.2 rfl))
  have h1 := h i u hu
  rw [add_off]
  simp [World.cell?, hb, h1]
theorem run_loadQ (hl : ∀ x, (enc x).length = sz) (hT : ∀ w, (isAgg E).run P w = .ok true w) (hz : ∀ w, (sizeOf E).run P w = .ok sz w) (hS : St ds w W n a κ l Φ) (hm : ∀ B ∈ rowB v cs T, B ∈ l) (hO : OwnQ enc sz v xs cs) {j : Nat} (hx : ev κ x = some (.pointer (adr v (j * sz)))) (hj : j < xs.length) (df : α) :
    (execOp a.eval ⟨some d, .load E x, ty, pos, af, g⟩).run P W = .ok (.value (.agg (enc (xs.getD j df)).toArray)) W := by
  obtain ⟨p, e, h⟩ := hO.cell hl hS hm hj
  rw [e] at hx
  have : xs.getD j df = xs[j] := by simp [List.getD_eq_getElem?_getD, hj]
  rw [this]
  exact run_load_ext hT hz hS hx (hl _) h
theorem OwnQ.set (hl : ∀ x, (enc x).length = sz) {b off cap : Nat} (hO : OwnQ enc sz (.slice (some ⟨b, off, none⟩) xs.length cap) xs cs) {j : Nat} (hj : j < xs.length) (q : α) : OwnQ enc sz (.slice (some ⟨b, off, none⟩) (xs.set j q).length cap) (xs.set j q) (splice cs (off + j * sz) (enc q)) := by
  rcases hO with ⟨e, _⟩ | ⟨b', off', cap', e, h1, h2, h3, h4⟩
  · cases e
  · cases e
    have hlen : xs.length * sz ≤ cap * sz := Nat.mul_le_mul_right _ h1
    have hjs : j * sz + sz ≤ xs.length * sz := by rw [← Nat.succ_mul]; exact Nat.mul_le_mul_right _ hj
    have hsl : (splice cs (off + j * sz) (enc q)).length = cs.length := by
      unfold splice; simp only [List.length_append, List.length_take, List.length_drop, hl]; omega
    refine .inr ⟨b, off, cap, rfl, by rw [List.length_set]; exact h1, h2, by rw [hsl]; exact h3, ?_⟩
    have hset : ∀ (zs : List α) (j : Nat), j < zs.length → (zs.set j q).flatMap enc = splice (zs.flatMap enc) (j * sz) (enc q) := by
      intro zs
      induction zs with
      | nil => intro j h; simp at h
      | cons z zs ih =>
        intro j h
        cases j with
        | zero =>
          simp only [List.set_cons_zero, List.flatMap_cons, splice, Nat.zero_mul, Nat.zero_add, List.take_zero, List.nil_append, hl]
          rw [List.drop_append_of_le_length (by rw [hl]; omega), List.drop_of_length_le (by rw [hl]; omega), List.nil_append]
        | succ j =>
          have h' : j < zs.length := by simpa using h
          rw [List.set_cons_succ, List.flatMap_cons, ih j h', List.flatMap_cons]
          unfold splice
          have e1 : (j + 1) * sz = (enc z).length + j * sz := by rw [hl, Nat.succ_mul]; omega
          rw [e1, List.take_length_add_append, Nat.add_assoc, List.drop_length_add_append, List.append_assoc, List.append_assoc, List.append_assoc]
    rw [List.length_set, hset xs j hj, ← h4]
    unfold splice
    simp only [hl]
    apply List.ext_getElem?
    intro i
    simp only [List.getElem?_take, List.getElem?_drop, List.getElem?_append, List.length_append, List.length_take, List.length_drop, hl]
    by_cases hi : i < xs.length * sz
    · rw [if_pos hi]
      by_cases h5 : i < j * sz
      · rw [if_pos (by omega), if_pos (by omega), if_pos (by omega), if_pos (by omega), if_pos (by omega), if_pos (by omega), if_pos (by omega)]
      · by_cases h6 : i < j * sz + sz
        · rw [if_pos (by omega), if_neg (by omega), if_pos (by omega), if_neg (by omega)]
          congr 1; omega
        · rw [if_neg (by omega), if_neg (by omega), if_pos (by omega)]
          congr 1; omega
    · rw [if_neg hi, if_neg (by omega), if_neg (by omega)]
theorem st_storeQ (hl : ∀ x, (enc x).length = sz) (h1 : ∀ x, (enc x).all (·.oneCell') = true) (hz : ∀ w, (sizeOf E).run P w = .ok sz w) (hS : St ds w W n a κ (l ++ rowB v cs T) Φ) (hO : OwnQ enc sz v xs cs) {j : Nat} {q : α}
    (hw : Region.wanted ⟨none, .store E x y, ty, pos, af, g⟩ (yielded ops a.tmps) = true) (hx : ev κ x = some (.pointer (adr v (j * sz)))) (hj : j < xs.length) (hy : ev κ y = some u) (hu : u.cells.toList = enc q)
    (K : ∀ W a cs', OwnQ enc sz v (xs.set j q) cs' → St ds w W n a κ (l ++ rowB v cs' T) Φ → wpListIn (Fw r) m P ops Q rest a W) : wpListIn (Fw r) m P ops Q (⟨none, .store E x y, ty, pos, af, g⟩ :: rest) a W := by
  obtain ⟨b, off, cap, rfl, hlen, _⟩ := hO.at_ hl hj
  have hB : (⟨b, cs, T⟩ : Blk) ∈ l ++ rowB (.slice (some ⟨b, off, none⟩) xs.length cap) cs T := List.mem_append_right _ (List.mem_singleton.2 rfl)
  have hjs : j * sz + sz ≤ xs.length * sz := by rw [← Nat.succ_mul]; exact Nat.mul_le_mul_right _ hj
  have hin : off + j * sz + (enc q).length ≤ cs.length := by rw [hl]; omega
  have hb := hS.blk _ hB
  have hrun := run_storeCells_at (P := P) b (off + j * sz) T (enc q) 0 cs.toArray W hb (by simpa using hin) (fun u hu => List.all_eq_true.1 (h1 q) u hu)
  have hx' : ev κ x = some (.pointer (some ⟨b, off + j * sz, none⟩)) := by rw [hx]; simp [adr, add_off]
  have hO' := hO.set hl hj q
  refine wl_unit hw (by simp) (W' := W.setRow b (splice cs (off + j * sz) (enc q)).toArray) ?_ (K _ _ (splice cs (off + j * sz) (enc q)) (by rw [List.length_set] at hO'; exact hO') ?_)
  · simp only [execOp, hS.ev hx', hS.ev hy]
    have hk : ∀ W : World, (sizeOf E).run P W = .ok sz W := hz
    have hsz : u.cells.size = sz := by rw [← Array.length_toList, hu, hl]
    simp [Instr.storeAt, Instr.sureAddr, storeVar, hk W, hsz, hu, hrun, splice]
  · exact hS.write (l1 := l) (B := ⟨b, cs, T⟩) (l2 := []) _
theorem runs_appQ {tx : TypeId} {k : Nat} {y : Value} (hl : ∀ x, (enc x).length = sz) (hT : P.underlying T = some (.slice E)) (hi : AI P E sz by_) (hsz : 0 < sz) (hS : St ds w W n a κ (l ++ rowB v cs E) Φ) (hO : OwnQ enc sz v xs cs)
    (hs : Src P sz tx y k (ys.flatMap enc) W) (hk : k = ys.length) (hlen : (xs.length + k) * by_ ≤ 140737488355328) :
    ∃ v' cs' W', (Builtin.append_ #[T, tx] ty #[v, y]).run P W = .ok v' W' ∧ OwnQ enc sz v' (xs ++ ys) cs' ∧ (∀ b, v'.ownBlock = some b → v.ownBlock = some b ∨ W.heap.size ≤ b) ∧ W.heap.size ≤ W'.heap.size ∧ St ds w W' n a κ (l ++ rowB v' cs' E) Φ := by
  obtain ⟨i, z, h1, h2, h3, h4, h5, h6⟩ := hi
  subst h3
  subst h4
  have hNk : xs.length + k ≤ 140737488355328 := Nat.le_trans (Nat.le_mul_of_pos_right _ h6) hlen
  have hxl := qflat_len hl xs
  have hnl := hs.newsLen
  have hml : xs.length + k ≤ maxLen := by simp only [maxLen]; omega
  have hfl : (xs ++ ys).flatMap enc = xs.flatMap enc ++ ys.flatMap enc := List.flatMap_append
  have hxy : (xs ++ ys).length = xs.length + k := by rw [List.length_append, hk]
  have grow : ∀ (base : Option Addr) (old : Nat) (hv : v = .slice base xs.length old), old < xs.length + k → (Builtin.firstCells i.size xs.length (.slice base xs.length old)).run P W.drew = .ok (xs.flatMap enc).toArray W.drew →
      ∃ v' cs' W', (Builtin.append_ #[T, tx] ty #[v, y]).run P W = .ok v' W' ∧ OwnQ enc i.size v' (xs ++ ys) cs' ∧ (∀ b, v'.ownBlock = some b → v.ownBlock = some b ∨ W.heap.size ≤ b) ∧ W.heap.size ≤ W'.heap.size ∧ St ds w W' n a κ (l ++ rowB v' cs' E) Φ := by
    intro base old hv hold hfc
    have hfit : Builtin.nextslicecap (xs.length + k) old * i.bytes ≤ 281474976710656 := growslice_fits hold hlen
    have hr := run_append_grow_src (P := P) W T tx ty E i z hT h1 h2 base xs.length old (xs.flatMap enc) hfc y k (ys.flatMap enc) hs hold (by omega) hfit
    have hge := grownCap_ge W (xs.length + k) old E
    have hcm : grownCap W (xs.length + k) old E ≤ maxLen := grownCap_le_maxLen W (xs.length + k) old E hml
    have e : (xs.flatMap enc ++ ys.flatMap enc).toArray ++ Builtin.zeroCells z.cells (grownCap W (xs.length + k) old E - (xs.length + k)) = ((xs.flatMap enc ++ ys.flatMap enc) ++ (Builtin.zeroCells z.cells (grownCap W (xs.length + k) old E - (xs.length + k))).toList).toArray := by simp
    rw [hv, hr, e]
    have hn2 := hS.newRow (cs' := (xs.flatMap enc ++ ys.flatMap enc) ++ (Builtin.zeroCells z.cells (grownCap W (xs.length + k) old E - (xs.length + k))).toList) (xs.length + k) (grownCap W (xs.length + k) old E)
    refine ⟨_, _, _, rfl, .inr ⟨W.heap.size, 0, grownCap W (xs.length + k) old E, by rw [hxy], by rw [hxy]; exact hge, hcm, ?_, ?_⟩, fun b hb => .inr ?_, ?_, hn2⟩
    · have hzl : (Builtin.zeroCells z.cells (grownCap W (xs.length + k) old E - (xs.length + k))).toList.length = (grownCap W (xs.length + k) old E - (xs.length + k)) * i.size := by rw [Array.length_toList, size_zeroCells, h5]
      rw [List.length_append, List.length_append, hxl, hnl, hzl, ← Nat.add_mul, ← Nat.add_mul, Nat.zero_add]
      exact Nat.mul_le_mul_right _ (by omega)
    · rw [List.drop_zero, hxy, hfl, show (xs.length + k) * i.size = (xs.flatMap enc ++ ys.flatMap enc).length by rw [List.length_append, hxl, hnl, Nat.add_mul]]
      exact List.take_left
    · simp only [Value.ownBlock, Option.some.injEq] at hb
      exact Nat.le_of_eq hb
    · exact Nat.le_trans (Nat.le_succ W.heap.size) (Nat.le_of_eq (World.size_alloc W.drew _).symm)
  rcases hO with ⟨rfl, rfl, rfl⟩ | ⟨b, off, cap, rfl, hnc, hcm, hcl, hct⟩
  · by_cases hk0 : k = 0
    · have hys : ys = [] := List.eq_nil_of_length_eq_zero (by omega)
      subst hys
      refine ⟨.slice none 0 0, [], W, ?_, .inl ⟨rfl, rfl, rfl⟩, (fun b hb => by cases hb), Nat.le_refl _, hS⟩
      subst hk0
      rcases hs.kind with ⟨e', he⟩ | he <;> simp [Builtin.append_, run_underlying hT, run_underlying he, sizeOf, typeInfo, h1, hs.len, hs.cells]
    · exact grow none 0 rfl (by simp; omega) (run_firstCells_none W.drew i.size 0 0 0)
  · have hmem : (⟨b, cs, E⟩ : Blk) ∈ l ++ rowB (.slice (some ⟨b, off, none⟩) xs.length cap) cs E := List.mem_append_right _ (List.mem_singleton.2 rfl)
    have hb := hS.blk _ hmem
    by_cases hroom : xs.length + k ≤ cap
    · have hcap : (xs.length + k) * i.size ≤ cap * i.size := Nat.mul_le_mul_right _ hroom
      rw [Nat.add_mul] at hcap
      have hfit : off + xs.length * i.size + (ys.flatMap enc).length ≤ cs.length := by rw [hnl]; omega
      have hst := run_storeCells_at P b (off + xs.length * i.size) E (ys.flatMap enc) 0 cs.toArray W hb (by simpa using hfit) hs.one
      simp only [Nat.add_zero] at hst
      refine ⟨.slice (some ⟨b, off, none⟩) (xs.length + k) cap, cs.take (off + xs.length * i.size) ++ ys.flatMap enc ++ cs.drop (off + xs.length * i.size + (ys.flatMap enc).length), W.setRow b (cs.take (off + xs.length * i.size) ++ ys.flatMap enc ++ cs.drop (off + xs.length * i.size + (ys.flatMap enc).length)).toArray, ?_, .inr ⟨b, off, cap, by rw [hxy], by rw [hxy]; exact hroom, hcm, ?_, ?_⟩, fun b' hb' => .inl hb', by simp [World.setRow], ?_⟩
      · rcases hs.kind with ⟨e', he⟩ | he <;> simp [Builtin.append_, run_underlying hT, run_underlying he, sizeOf, typeInfo, h1, hs.len, hroom, hs.cells, add_off, hst]
      · simp only [List.length_append, List.length_take, List.length_drop]; omega
      · rw [hfl, ← hct, hxy, Nat.add_mul, ← hnl]
        generalize ys.flatMap enc = zs at hfit ⊢
        apply List.ext_getElem?
        intro j
        simp only [List.getElem?_take, List.getElem?_drop, List.getElem?_append, List.length_append, List.length_take, List.length_drop]
        by_cases hj : j < xs.length * i.size
        · rw [if_pos (by omega), if_pos (by omega), if_pos (by omega), if_pos (by omega), if_pos (by omega), if_pos (by omega)]
        · by_cases hj2 : j < xs.length * i.size + zs.length
          · rw [if_pos (by omega), if_pos (by omega), if_neg (by omega), if_neg (by omega)]
            congr 1; omega
          · rw [if_neg (by omega), if_neg (by omega), List.getElem?_eq_none (by omega)]
      · have := hS.write (l1 := l) (B := ⟨b, cs, E⟩) (l2 := []) (cs.take (off + xs.length * i.size) ++ ys.flatMap enc ++ cs.drop (off + xs.length * i.size + (ys.flatMap enc).length))
        exact this
    · refine grow (some ⟨b, off, none⟩) cap rfl (by omega) ?_
      refine run_firstCells_some (P := P) W.drew i.size xs.length ⟨b, off, none⟩ xs.length cap (xs.flatMap enc) hxl ?_
      intro j u hj
      have hjx : j < xs.length * i.size := by rw [← hxl]; exact (List.getElem?_eq_some_iff.1 hj).1
      have : cs[off + j]? = some u := by rw [← hct, List.getElem?_take_of_lt (by omega), List.getElem?_drop] at hj; exact hj
      rw [add_off]
      show (W.drew).cell? ⟨b, off + j, none⟩ = some u
      have hbd : (W.drew).heap[b]? = some (.cells cs.toArray E (0, 0)) := hb
      simp [World.cell?, hbd, this]
theorem st_appQ {tx : TypeId} {k : Nat} {y' : Value} (hl : ∀ x, (enc x).length = sz) (hT : P.underlying T = some (.slice E)) (hi : AI P E sz by_) (hsz : 0 < sz) (hS : St ds w W n a κ (l ++ rowB v cs E) Φ) (hO : OwnQ enc sz v xs cs)
    (hw : Region.wanted ⟨some d, .call { callee := .builtin .append, args := #[x, y], argTypes := #[T, tx] }, ty, pos, af, g⟩ (yielded ops a.tmps) = true) (hd : Nat.blt d n = true) (hx : ev κ x = some v) (hy : ev κ y = some y') (hs : Src P sz tx y' k (ys.flatMap enc) W) (hk : k = ys.length) (hlen : (xs.length + k) * by_ ≤ 140737488355328)
    (K : ∀ W' a v' cs', OwnQ enc sz v' (xs ++ ys) cs' → (∀ b, v'.ownBlock = some b → v.ownBlock = some b ∨ W.heap.size ≤ b) → W.heap.size ≤ W'.heap.size → St ds w W' n a ((d, v') :: κ) (l ++ rowB v' cs' E) Φ → wpListIn (Fw r) m P ops Q rest a W') :
    wpListIn (Fw r) m P ops Q (⟨some d, .call { callee := .builtin .append, args := #[x, y], argTypes := #[T, tx] }, ty, pos, af, g⟩ :: rest) a W := by
  obtain ⟨v', cs', W', h1, h2, h3, h4, h5⟩ := runs_appQ (ty := ty) hl hT hi hsz hS hO hs hk hlen
  refine wl_op hw (by simp) (v := v') (W' := W') ?_ (K _ _ v' cs' h2 h3 h4 (h5.put hd v'))
  simp only [execOp]
  simp [resolve, invoke, builtin, hS.ev hx, hS.ev hy, h1]
theorem run_tailQ {k : Nat} {lo : Operand} (hl : ∀ x, (enc x).length = sz) (hT : P.underlying T = some (.slice E)) (hz : ∀ w, (sizeOf E).run P w = .ok sz w) (hS : St ds w W n a κ l Φ) (hO : OwnQ enc sz v xs cs) (hx : ev κ x = some v) (hlo : ev κ lo = some (.int .i64 (k : Int))) (hk : k ≤ xs.length) (hne : xs ≠ []) :
    ∃ v', (execOp a.eval ⟨some d, .slice T x (some lo) none none, ty, pos, af, g⟩).run P W = .ok (.value v') W ∧ OwnQ enc sz v' (xs.drop k) cs ∧ v'.ownBlock = v.ownBlock := by
  rcases hO with ⟨_, rfl, _⟩ | ⟨b, off, cap, rfl, h1, h2, h3, h4⟩
  · exact absurd rfl hne
  · have hlen : (xs.drop k).length = xs.length - k := by simp
    have hcs := qflat_len hl xs
    refine ⟨.slice (if cap = k then some ⟨b, off, none⟩ else some ⟨b, off + k * sz, none⟩) (xs.length - k) (cap - k), ?_, ?_, ?_⟩
    · have h5 : (k : Int) ≤ (cap : Int) := by omega
      have h6 : (k : Int) ≤ (xs.length : Int) := by omega
      simp only [execOp, hS.ev hx, Option.map_some, Option.map_none, hS.ev hlo]
      simp [Instr.sliceAt, Instr.slice, Instr.sliceBounds, Instr.sliceBound, asIntOf, run_underlying hT, hz W, h5, h6, add_off]
      try omega
    · by_cases hc : cap = k
      · rw [if_pos hc]
        have hx0 : xs.drop k = [] := by rw [List.drop_eq_nil_iff]; omega
        refine .inr ⟨b, off, cap - k, by rw [hlen], by omega, by omega, ?_, by rw [hx0]; simp⟩
        have := Nat.mul_le_mul_right sz (Nat.sub_le cap k); omega
      · rw [if_neg hc]
        refine .inr ⟨b, off + k * sz, cap - k, by rw [hlen], by rw [hlen]; omega, by omega, ?_, ?_⟩
        · have : k * sz + (cap - k) * sz = cap * sz := by rw [← Nat.add_mul]; congr 1; omega
          omega
        · have hsplit : xs.flatMap enc = (xs.take k).flatMap enc ++ (xs.drop k).flatMap enc := by rw [← List.flatMap_append, List.take_append_drop]
          have htk : ((xs.take k).flatMap enc).length = k * sz := by rw [qflat_len hl, List.length_take, Nat.min_eq_left hk]
          have hxk : xs.length * sz = k * sz + (xs.length - k) * sz := by rw [← Nat.add_mul]; congr 1; omega
          rw [hlen, ← List.drop_drop]
          have h7 : ((cs.drop off).take (xs.length * sz)).drop (k * sz) = (xs.drop k).flatMap enc := by
            rw [h4, hsplit, ← htk, List.drop_left]
          rw [← h7, List.drop_take]
          congr 1; omega
    · by_cases hc : cap = k
      · rw [if_pos hc]; rfl
      · rw [if_neg hc]; rfl
theorem OwnQ.frozen {bb nn : Nat} {hb : 0 < bb} {hl : ∀ x, (enc x).length = nn} (hS : St ds w W n a κ (l ++ rowB v cs T) Φ) (hO : OwnQ enc nn v xs cs) (hbd : xs.length * bb ≤ 140737488355328) :
    ∃ s : SV, v = .slice s.a xs.length s.c ∧ Sl (kOf enc nn bb hb hl) (fun k => w.heap.size ≤ k ∧ v.ownBlock = some k) W s xs := by
  rcases hO with ⟨rfl, rfl, rfl⟩ | ⟨b, off, cap, rfl, h1, h2, h3, h4⟩
  · exact ⟨⟨none, 0⟩, rfl, Nat.le_refl _, by simp, fun j hj => absurd hj (Nat.not_lt_zero j)⟩
  · have hmem : (⟨b, cs, T⟩ : Blk) ∈ l ++ rowB (.slice (some ⟨b, off, none⟩) xs.length cap) cs T := List.mem_append_right _ (List.mem_singleton.2 rfl)
    have hbk := hS.blk _ hmem
    have hold := hS.old _ hmem
    refine ⟨⟨some ⟨b, off, none⟩, cap⟩, rfl, h1, hbd, fun j hj => ⟨⟨b, off, none⟩, enc xs[j], rfl, ⟨hold, rfl⟩, rfl, fun i u hu => ?_⟩⟩
    have h5 := qflat_get hl xs j hj i u hu
    rw [← h4] at h5
    have h6 := (List.getElem?_eq_some_iff.1 h5).1
    rw [List.length_take] at h6
    rw [List.getElem?_take_of_lt (by omega), List.getElem?_drop] at h5
    rw [add_off]
    show W.cell? ⟨b, off + (j * nn + i), none⟩ = some u
    simp [World.cell?, hbk, h5]
theorem St.freezeQ {bb nn : Nat} {hb : 0 < bb} {hl : ∀ x, (enc x).length = nn} (hS : St ds w W n a κ (l ++ rowB v cs T) Φ) (hO : OwnQ enc nn v xs cs) (hbd : xs.length * bb ≤ 140737488355328) :
    ∃ s : SV, v = .slice s.a xs.length s.c ∧ St ds w W n a κ l (fun W => Φ W ∧ Sl (kOf enc nn bb hb hl) (fun k => w.heap.size ≤ k ∧ v.ownBlock = some k) W s xs) := by
  obtain ⟨s, e, h⟩ := hO.frozen (hb := hb) (hl := hl) hS hbd
  refine ⟨s, e, ?_⟩
  have hS2 := hS.drop (List.sublist_append_left l _)
  refine hS2.more fun W' ho hz => h.move fun k hk hlt => ho.same k hlt fun B hB e2 => ?_
  have hd := (List.pairwise_append.1 hS.dist).2.2 B hB
  obtain ⟨_, hk⟩ := hk
  unfold rowB at hd
  rw [hk] at hd
  exact hd _ (List.mem_singleton.2 rfl) e2.symm
end
end Go.Proofs.YtdnodlgebpnfoaaGreat
namespace Go.Proofs.YtdnodlgebpnfoaaGreat
open Go Go.RowKit Go.Shelf Sw
def notMap (o : Obj) : Prop := ∀ es c, o ≠ .map es c
structure Tn (S : Nat → Prop) (N : Nat) (A B : World) : Prop where
  kp : Kp S A B
  other : ∀ (k : Nat) (o : Obj), A.heap[k]? = some o → o.isCells = false → (N ≤ k ∨ notMap o) → B.heap[k]? = some o
structure Tq (l : List Blk) (N : Nat) (A B : World) : Prop where
  os : B.os = A.os
  tape : B.tape = A.tape
  output : B.output = A.output
  size : A.heap.size ≤ B.heap.size
  cells : ∀ (k : Nat) (o : Obj), A.heap[k]? = some o → o.isCells = true → (∀ b ∈ l, k ≠ b.b) → B.heap[k]? = some o
  other : ∀ (k : Nat) (o : Obj), A.heap[k]? = some o → o.isCells = false → k < N → B.heap[k]? = some o
theorem Tq.below {l : List Blk} {N : Nat} {A B : World} (h : Below A.heap.size A B) : Tq l N A B :=
  ⟨h.os, h.tape, h.output, h.size, fun k o hk _ _ => by rw [h.block k (Array.getElem?_eq_some_iff.1 hk).1]; exact hk, fun k o hk _ _ => by rw [h.block k (Array.getElem?_eq_some_iff.1 hk).1]; exact hk⟩
theorem Tq.off {l : List Blk} {N : Nat} {A B : World} (hb : ∀ b ∈ l, ∃ o : Obj, A.heap[b.b]? = some o ∧ o.isCells = true) (h : Off l A B) (hz : A.heap.size ≤ B.heap.size) : Tq l N A B := by
  refine ⟨h.os, h.tape, h.output, hz, fun k o hk _ hn => ?_, fun k o hk hc _ => ?_⟩
  · rw [h.same k (Array.getElem?_eq_some_iff.1 hk).1 hn]; exact hk
  · rw [h.same k (Array.getElem?_eq_some_iff.1 hk).1 (fun b hm e => ?_)]
    · exact hk
    · obtain ⟨o', h1, h2⟩ := hb b hm
      rw [e, h1] at hk; cases hk; rw [hc] at h2; cases h2
theorem Tq.grown {l : List Blk} {N : Nat} {A B : World} {row : Option Nat} (h : A.grownBy B row) (hr : ∀ r, row = some r → N ≤ r ∧ ∃ o : Obj, A.heap[r]? = some o ∧ o.isCells = false) : Tq l N A B := by
  have hk := Kp.grown (S := fun _ => False) h (fun r e => (hr r e).2)
  refine ⟨h.os, h.tape, h.output, h.size, fun k o hk' hc _ => hk.cells k o hk' hc (fun h => h), fun k o hk' _ hlt => ?_⟩
  rw [h.block k (Array.getElem?_eq_some_iff.1 hk').1 (fun e => by have := (hr k e.symm).1; omega)]; exact hk'
theorem Tn.refl (S : Nat → Prop) (N : Nat) (A : World) : Tn S N A A := ⟨Kp.refl S A, fun _ _ h _ _ => h⟩
theorem Tn.off {S : Nat → Prop} {N : Nat} {l : List Blk} {A B C : World} (h : Tn S N A B) (hl : ∀ b ∈ l, S b.b) (hb : ∀ b ∈ l, ∃ o : Obj, B.heap[b.b]? = some o ∧ o.isCells = true) (ho : Off l B C) (hz : B.heap.size ≤ C.heap.size) : Tn S N A C := by
  refine ⟨h.kp.trans ⟨ho.os, ho.tape, ho.output, hz, fun k o hk hc hn => ?_⟩, fun k o hk hc hm => ?_⟩
  · rw [ho.same k (Array.getElem?_eq_some_iff.1 hk).1 (fun b hb e => hn (by rw [e]; exact hl b hb))]; exact hk
  · have h1 := h.other k o hk hc hm
    rw [ho.same k (Array.getElem?_eq_some_iff.1 h1).1 (fun b hm' e => ?_)]
    · exact h1
    · obtain ⟨o', h2, h3⟩ := hb b hm'
      rw [e, h2] at h1; cases h1; rw [hc] at h3; cases h3
theorem Tn.ind {S : Nat → Prop} {N b : Nat} {W1 : World} {en : Array MapEntry} {c : Nat} (hm : W1.heap[b]? = some (.map en c)) (hN : b < N) : Ind b (Tn S N W1) := fun A o h => by
  have hz : (A.putObj b o).heap.size = A.heap.size := by simp [World.putObj]
  refine ⟨⟨h.kp.os, h.kp.tape, h.kp.output, by rw [← hz]; exact h.kp.size, fun k o' hk hc hn => ?_⟩, fun k o' hk hc hn => ?_⟩
  · have h1 := h.kp.cells k o' hk hc hn
    rwa [World.putObj_heap_other (fun e => by rw [e, hm] at hk; cases hk; cases hc)] at h1
  · have h1 := h.other k o' hk hc hn
    rwa [World.putObj_heap_other (fun e => by
      rw [e, hm] at hk; cases hk
      rcases hn with hn | hn
      · omega
      · exact hn en c rfl)] at h1
theorem Tn.far {S X : Nat → Prop} {N : Nat} {W1 W W' : World} (hX : ∀ k, X k → k < N ∧ ∃ en c, W.heap[k]? = some (.map en c)) : Far X W W' (Tn S N W1) := fun A B h hn hx ho ht hu hz => by
  refine ⟨⟨ho.trans h.kp.os, ht.trans h.kp.tape, hu.trans h.kp.output, by rw [hz]; exact h.kp.size, fun k o' hk hc hns => ?_⟩, fun k o' hk hc hns => ?_⟩
  · have h1 := h.kp.cells k o' hk hc hns
    rw [hn k (fun hx' => ?_)]
    · exact h1
    · obtain ⟨_, en, c, h2⟩ := hX k hx'
      rw [(hx k hx').1, h2] at h1; cases h1; cases hc
  · have h1 := h.other k o' hk hc hns
    rw [hn k (fun hx' => ?_)]
    · exact h1
    · obtain ⟨h0, en, c, h2⟩ := hX k hx'
      rw [(hx k hx').1, h2] at h1; cases h1
      rcases hns with hns | hns
      · omega
      · exact hns en c rfl
theorem CellsAt.ind {b : Nat} {p : Addr} {cs : List Value} (h : p.block ≠ b) : Ind b (fun W => CellsAt W p cs) := fun A o hc i u hu => cell_same (hc i u hu) (by rw [add_block, World.putObj_heap_other h])
theorem CellsAt.far {X : Nat → Prop} {W W' : World} {p : Addr} {cs : List Value} (h : ¬ X p.block) : Far X W W' (fun W => CellsAt W p cs) := fun A B hc hn _ _ _ _ _ i u hu => cell_same (hc i u hu) (by rw [add_block, hn _ h])
theorem MapAt.far {X : Nat → Prop} {W W' : World} {b : Nat} {es : PM} (h : ¬ X b) : Far X W W' (fun W => MapAt W b es) := fun A B ⟨en, c, h1, h2⟩ hn _ _ _ _ _ => ⟨en, c, by rw [hn _ h]; exact h1, h2⟩
theorem Ind.and {b : Nat} {Φ Ψ : World → Prop} (h : Ind b Φ) (h' : Ind b Ψ) : Ind b (fun W => Φ W ∧ Ψ W) := fun A o ⟨x, y⟩ => ⟨h A o x, h' A o y⟩
def Uq (bs : List Nat) (bq : Nat) (W : World) (k : Nat) : Prop := k ∈ bs ∨ ∃ v, W.cell? ⟨bq, 0, none⟩ = some v ∧ v.ownBlock = some k
theorem Uq.back {bs : List Nat} {bq N : Nat} (hb : bq < N) (A B : World) (k : Nat) (h : ∀ j, j < N → B.heap[j]? = A.heap[j]?) (hu : Uq bs bq B k) : Uq bs bq A k := by
  rcases hu with hu | ⟨v, h1, h2⟩
  · exact .inl hu
  · exact .inr ⟨v, cell_same h1 (h bq hb).symm, h2⟩
section
variable {P : Program} {r : Option Nat} {m : Nat} {Q : Exit → Act → World → Prop}
  {ds : List Nat} {w W W' : World} {n d : Nat} {a : Act} {κ : KV} {l l1 l2 : List Blk} {Φ : World → Prop}
theorem st_rangeN {α σ : Type} {gop : Operand} {p : Tmp} {assign body : Code} {S : Nat → Prop} (hS : St ds w W n a κ l Φ) (h1 : 1 ≤ m) {gf : Nat} {lb : Array Value} (hg : ev κ gop = some (.func (.func gf) #[] lb)) (hf : Enters P gf)
    {enc : α → Value} {Sx : List α → Prop} {N : Nat} (hseq : SeqStopsK Fence.wide (m - 1) P gf lb (fun x => #[enc x]) (Kp S) Sx (fun _ => True) N W) (hp : Nat.blt p n = true)
    (wb : σ → World) (lf : σ → List Blk) (ΦI : σ → World → Prop) (φ : List α → σ → Prop) (s0 : σ) (hw0 : wb s0 = w) (hl0 : lf s0 = l) (hφ0 : φ [] s0) (hΦ0 : ∀ W, Φ W → ΦI s0 W)
    (hbs : ∀ pre s, φ pre s → (wb s).heap.size = w.heap.size) (hcl : ∀ pre s A B, φ pre s → ΦI s A → Tq (lf s) W.heap.size A B → ΦI s B) (hlS : ∀ pre s, φ pre s → ∀ B ∈ lf s, S B.b)
    (U : World → Nat → Prop) (hU1 : ∀ pre s W1, φ pre s → Ws (wb s) W1 (lf s) → ∀ B ∈ lf s, U W1 B.b) (hU2 : ∀ pre s W1 k, φ pre s → Ws (wb s) W1 (lf s) → U W1 k → k < W1.heap.size)
    (hU3 : ∀ A B k, (∀ j, j < W.heap.size → B.heap[j]? = A.heap[j]?) → U B k → U A k) (κx : Nat → α → KV) (cx : α → List Value)
    (hassign : ∀ r x W1 a1, St [] W1 W1 n a1 ((p, enc x) :: κ) [] (fun _ => True) → ∀ K : Act → World → Prop, (∀ a2 W2 b, W1.heap.size ≤ b → (∀ t v, lk (κx b x ++ κ) t = some v → a2.tmps.getD t undef = v) → a2.tmps.size = n → a2.defers = [] → Below W1.heap.size W1 W2 → CellsAt W2 ⟨b, 0, none⟩ (cx x) → K a2 W2) →
      assign.wpIn (Fw (some r)) (m - 1 - 1) P (Exit.then K (fun _ _ _ => False)) a1 W1)
    (hbody : ∀ r pre x s W1 a1 b, φ pre s → pre.length < N → W.heap.size ≤ W1.heap.size → W.heap.size ≤ b → St [] (wb s) W1 n a1 (κx b x ++ κ) (lf s) (fun W2 => (ΦI s W2 ∧ Tn S W.heap.size W1 W2) ∧ CellsAt W2 ⟨b, 0, none⟩ (cx x)) →
      body.wpIn (Fw (some r)) (m - 1 - 1) P (fun e a' W' => e = .normal ∧ ∃ s' κ' le, φ (pre ++ [x]) s' ∧ St [] (wb s') W' n a' κ' (le ++ lf s') (fun W2 => ΦI s' W2 ∧ Tn S W.heap.size W1 W2)) a1 W1)
    (hend : ∀ D xs s W2 a2, Sx xs → φ xs s → D ∉ ds → W.heap.size ≤ W2.heap.size → St (D :: ds) (wb s) W2 n a2 κ (lf s) (ΦI s) → Q .normal a2 W2) : (Code.rangeFunc gop #[p] assign body).wpIn (Fw none) m P Q a W := by
  have hwW := hS.below.size
  have hΦ1 : ∀ W', Off l W W' → W.heap.size ≤ W'.heap.size → ΦI s0 W' := fun W' ho hz => hΦ0 _ (hS.fact W' ho hz)
  let I : List α → World → Prop := fun pre W1 => ∃ s, φ pre s ∧ Ws (wb s) W1 (lf s) ∧ ΦI s W1 ∧ W.heap.size ≤ W1.heap.size ∧ ∀ D ∈ ds, W1.heap[D]? = some (.deferred (some []))
  let Ax : α → Act → World → Prop := fun x a' W1 => ∃ b, Fr n a' (κx b x ++ κ) ∧ CellsAt W1 ⟨b, 0, none⟩ (cx x) ∧ W.heap.size ≤ b ∧ ¬ U W1 b
  have hdlt : ∀ D ∈ ds, D < W.heap.size := fun D hD => (Array.getElem?_eq_some_iff.1 (hS.defers.2 D hD).2).1
  have hI : OwnFrom W.heap.size I := by
    rintro pre A B row ⟨s, h2, h3, h4, h5, h6⟩ hgr hrow
    have hb := hbs pre s h2
    refine ⟨s, h2, ⟨⟨hgr.os.trans h3.below.os, hgr.tape.trans h3.below.tape, hgr.output.trans h3.below.output, Nat.le_trans h3.below.size hgr.size, fun k hk => ?_⟩, fun b hm => ?_, h3.old, h3.dist⟩, hcl pre s _ _ h2 h4 (Tq.grown hgr hrow), Nat.le_trans h5 hgr.size, fun D hD => ?_⟩
    · rw [hgr.block k (Nat.lt_of_lt_of_le hk h3.below.size) (fun e => ?_), h3.below.block k hk]
      have := (hrow k e.symm).1; omega
    · exact (Kp.grown (S := fun _ => False) hgr fun r e => (hrow r e).2).cells _ _ (h3.blk b hm) rfl (fun h => h)
    · have := hdlt D hD
      rw [hgr.block D (by omega) (fun e => by have := (hrow D e.symm).1; omega)]; exact h6 D hD
  have hAx : ∀ x a', OwnFrom W.heap.size (fun (_ : Unit) W1 => Ax x a' W1 ∧ W.heap.size ≤ W1.heap.size) := by
    rintro x a' _ A B row ⟨⟨b, h2, h3, h4, h5⟩, hz⟩ hgr hrow
    refine ⟨⟨b, h2, (Kp.grown (S := fun _ => False) hgr fun r e => (hrow r e).2).cellsAt h3 (fun h => h), h4, fun hu => h5 (hU3 A B b (fun j hj => ?_) hu)⟩, Nat.le_trans hz hgr.size⟩
    rw [hgr.block j (by omega) (fun e => by have := (hrow j e.symm).1; omega)]
  refine wpIn_rangeFunc_ownH (F := Fw none) rfl h1 (hS.ev hg) trivial hf hseq Kp.trans ?_ (Below.refl _ _) (fun _ => rfl) I (fun _ _ _ => False) hI (fun _ _ _ _ _ h => h.elim) ⟨s0, hφ0, by rw [hw0, hl0]; exact hS.ws, hΦ1 W (Off.refl l W) (Nat.le_refl _), Nat.le_refl _, fun D hD => (hS.defers.2 D hD).2⟩ (fun x a' W1 => Ax x a' W1 ∧ W.heap.size ≤ W1.heap.size) hAx ?_ ?_ ?_ ?_
  · intro A k o o' hk ho hc _
    exact Kp.grown (grownBy_putObj' A k o') (fun r e => by cases e; exact ⟨o, ho, hc⟩)
  · rintro r pre x W1 K ⟨s, h2, h3, h4, h5, h6⟩ hK
    refine hassign r x W1 _ ?_ K ?_
    · refine ⟨by simpa using hS.size, ⟨rfl, fun D hD => by cases hD⟩, ?_, Below.refl _ _, fun b hb => (by cases hb), fun b hb => (by cases hb), List.Pairwise.nil, fun _ _ _ => trivial⟩
      have := (hS.put hp (enc x)).get
      intro t v ht
      simpa [Act.put] using this t v ht
    · intro a2 W2 b hb hf2 hz2 hd2 hbl hca
      refine hK a2 W2 ?_ (Kp.below hbl) ⟨s, h2, ⟨h3.below.trans (hbl.mono h3.below.size), fun B hB => ?_, h3.old, h3.dist⟩, hcl pre s _ _ h2 h4 (Tq.below hbl), Nat.le_trans h5 hbl.size, fun D hD => ?_⟩ ⟨⟨b, ⟨hz2, hd2, hf2⟩, hca, ?_, fun hu => ?_⟩, Nat.le_trans h5 hbl.size⟩
      · exact ⟨hbl.size, fun k o _ hk _ => by rw [hbl.block k (Array.getElem?_eq_some_iff.1 hk).1]; exact hk⟩
      · rw [hbl.block _ (Array.getElem?_eq_some_iff.1 (h3.blk B hB)).1]; exact h3.blk B hB
      · rw [hbl.block D (Nat.lt_of_lt_of_le (hdlt D hD) h5)]; exact h6 D hD
      · exact Nat.le_trans h5 hb
      · have hu1 := hU3 W1 W2 b (fun j hj => hbl.block j (Nat.lt_of_lt_of_le hj h5)) hu
        have := hU2 pre s W1 b h2 h3 hu1
        omega
  · rintro r pre x a' W1 hr _ ⟨s, h2, h3, h4, h5', h6'⟩ ⟨⟨b, hfr, hca, hWb, hnu⟩, _⟩ hN
    have hnb : ∀ B ∈ lf s, B.b ≠ b := fun B hB e => hnu (by rw [← e]; exact hU1 pre s W1 h2 h3 B hB)
    refine wpIn_mono (hbody r pre x s W1 a' b h2 hN h5' hWb ⟨hfr.1, ⟨hfr.2.1, fun D hD => by cases hD⟩, hfr.2.2, h3.below, h3.blk, h3.old, h3.dist, fun W2 ho hz => ?_⟩) ?_
    · have hcs : ∀ b ∈ lf s, ∃ o : Obj, W1.heap[b.b]? = some o ∧ o.isCells = true := fun b hb => ⟨_, h3.blk b hb, rfl⟩
      refine ⟨⟨hcl pre s _ _ h2 h4 (Tq.off hcs ho hz), (Tn.refl S W.heap.size W1).off (hlS pre s h2) hcs ho hz⟩, fun i u hu => ?_⟩
      have h7 := hca i u hu
      have h8 := cell_lt h7
      rw [add_block] at h8
      exact cell_same h7 (by rw [add_block]; exact ho.same _ h8 fun B hB e => hnb B hB e.symm)
    · rintro e a2 W2 ⟨rfl, s', κ', le, h5, h6⟩
      have hnow := h6.now
      refine ⟨⟨hnow.2.kp.size, fun k o hB hk ho => hnow.2.other k o hk ho (.inl hB)⟩, hnow.2.kp, s', h5, (h6.drop (List.sublist_append_right _ _)).ws, hnow.1, Nat.le_trans h5' hnow.2.kp.size, fun D hD => ?_⟩
      exact hnow.2.other D _ (h6' D hD) rfl (.inr fun es c e => by cases e)
  · rintro D xs W2 hD hx ⟨s, h2, h3, h4, h5, h6⟩ hk
    refine hend D xs s W2 _ hx h2 (fun hm => by have := hdlt D hm; omega) h5 ⟨hS.size, ⟨by rw [hS.defers.1]; rfl, fun D' hD' => ?_⟩, hS.get, h3.below, h3.blk, h3.old, h3.dist, fun W3 ho hz => ?_⟩
    · have hb := hbs xs s h2
      rcases List.mem_cons.1 hD' with rfl | hD'
      · exact ⟨by omega, hk⟩
      · exact ⟨by rw [hb]; exact (hS.defers.2 D' hD').1, h6 D' hD'⟩
    · exact hcl xs s _ _ h2 h4 (Tq.off (fun b hb => ⟨_, h3.blk b hb, rfl⟩) ho hz)
  · rintro D c pre W2 _ _ hf _
    exact hf.elim
end
def Sq (bs : List Nat) (v : Value) (N : Nat) (k : Nat) : Prop := k ∈ bs ∨ v.ownBlock = some k ∨ N ≤ k
theorem rowB_mem {v : Value} {cs : List Value} {T : TypeId} {k : Nat} (h : v.ownBlock = some k) : (⟨k, cs, T⟩ : Blk) ∈ rowB v cs T := by unfold rowB; rw [h]; exact List.mem_singleton.2 rfl
theorem rowB_of {v : Value} {cs : List Value} {T : TypeId} {B : Blk} (h : B ∈ rowB v cs T) : v.ownBlock = some B.b := by
  unfold rowB at h
  cases hv : v.ownBlock with
  | none => rw [hv] at h; cases h
  | some k => rw [hv] at h; rw [List.mem_singleton.1 h]
theorem rowB_own {v v' : Value} {cs : List Value} {T : TypeId} (h : v'.ownBlock = v.ownBlock) : rowB v' cs T = rowB v cs T := by unfold rowB; rw [h]
section
variable {P : Program} {r : Option Nat} {m : Nat} {ops : Array Oper} {Q : Exit → Act → World → Prop} {rest : List Oper}
  {ds : List Nat} {w W W' : World} {n d : Nat} {a : Act} {κ : KV} {l l' : List Blk} {Φ : World → Prop} {bs : List Nat} {bq N m0 : Nat} {v : Value} {cs : List Value} {T Tq' : TypeId} {k : Nat}
theorem Sq.low (hS : St ds w W n a κ (l ++ rowB v cs T) Φ) (hb : l.map (·.b) = bs) (hN : w.heap.size ≤ N) (hk : k < w.heap.size) : ¬ Sq bs v N k := by
  rintro (h | h | h)
  · rw [← hb] at h
    obtain ⟨B, h1, rfl⟩ := List.mem_map.1 h
    have := hS.old B (List.mem_append_left _ h1); omega
  · have := hS.old _ (List.mem_append_right _ (rowB_mem (cs := cs) (T := T) h))
    have h2 : w.heap.size ≤ k := this
    omega
  · omega
theorem Sq.fresh (hlt : ∀ B ∈ l ++ rowB v cs T, B.b < m0) (hb : l.map (·.b) = bs) (h0 : m0 ≤ k) (hN : k < N) : ¬ Sq bs v N k := by
  rintro (h | h | h)
  · rw [← hb] at h
    obtain ⟨B, h1, rfl⟩ := List.mem_map.1 h
    have := hlt B (List.mem_append_left _ h1); omega
  · have : k < m0 := hlt _ (List.mem_append_right _ (rowB_mem (cs := cs) (T := T) h))
    omega
  · omega
theorem Sq.all {v' : Value} {cs' : List Value} (hb : l'.map (·.b) = bs) (hv : ∀ k, v'.ownBlock = some k → v.ownBlock = some k ∨ N ≤ k) : ∀ B ∈ l' ++ rowB v' cs' T, Sq bs v N B.b := by
  intro B hB
  rcases List.mem_append.1 hB with hB | hB
  · exact .inl (by rw [← hb]; exact List.mem_map_of_mem hB)
  · exact .inr (hv _ (rowB_of hB))
theorem Uq.of (hW : Ws w W (l' ++ rowB v cs T)) (hb : l'.map (·.b) = bs) (hq : (⟨bq, [v], Tq'⟩ : Blk) ∈ l') : ∀ B ∈ l' ++ rowB v cs T, Uq bs bq W B.b := by
  intro B hB
  rcases List.mem_append.1 hB with hB | hB
  · exact .inl (by rw [← hb]; exact List.mem_map_of_mem hB)
  · have := hW.blk _ (List.mem_append_left _ hq)
    exact .inr ⟨v, by simp [World.cell?, this], rowB_of hB⟩
theorem Uq.lt (hW : Ws w W (l' ++ rowB v cs T)) (hb : l'.map (·.b) = bs) (hq : (⟨bq, [v], Tq'⟩ : Blk) ∈ l') (hu : Uq bs bq W k) : k < W.heap.size := by
  rcases hu with hu | ⟨v', h1, h2⟩
  · rw [← hb] at hu
    obtain ⟨B, h1, rfl⟩ := List.mem_map.1 hu
    exact (Array.getElem?_eq_some_iff.1 (hW.blk B (List.mem_append_left _ h1))).1
  · have := hW.blk _ (List.mem_append_left _ hq)
    simp [World.cell?, this] at h1
    subst h1
    exact (Array.getElem?_eq_some_iff.1 (hW.blk _ (List.mem_append_right _ (rowB_mem (cs := cs) (T := T) h2)))).1
theorem MapAt.tq {A B : World} {b : Nat} {es : PM} (h : MapAt A b es) (hq : Tq l N A B) (hb : b < N) : MapAt B b es := by
  obtain ⟨en, c, h1, h2⟩ := h; exact ⟨en, c, hq.other b _ h1 rfl hb, h2⟩
variable {A B : Code}
theorem st_loopW {α : Type} (dI : α → List Nat) (wI : α → World) (κv : α → KV) (κ0 : KV) (lv : α → List Blk) (l0 : List Blk) (lr : α → List Blk) (ΦI : α → World → Prop) (φ : α → Prop) (μ : α → Nat) (x0 : α) (hS : St ds w W n a κ l Φ) (hκ : Sub (κv x0 ++ κ0) κ)
    (hd : dI x0 = ds) (hw : wI x0 = w) (hl : lv x0 ++ (l0 ++ lr x0) = l) (hΦ : ∀ W, Φ W → ΦI x0 W) (h0 : φ x0)
    (body : ∀ x W a, φ x → St (dI x) (wI x) W n a (κv x ++ κ0) (lv x ++ (l0 ++ lr x)) (ΦI x) → A.wpIn (Fw r) m P (Exit.then (fun a' W' => ∃ x', (φ x' ∧ μ x' < μ x) ∧ St (dI x') (wI x') W' n a' (κv x' ++ κ0) (lv x' ++ (l0 ++ lr x')) (ΦI x')) Q) a W) : (Code.loop A).wpIn (Fw r) m P Q a W :=
  st_loopB dI wI (fun x => κv x ++ κ0) (fun x => lv x ++ (l0 ++ lr x)) ΦI φ μ x0 (by rw [hd, hw, hl]; exact (hS.sub hκ).less hΦ) h0 body
theorem st_callR {f : FuncId} {args : Array Operand} {vs : List Value} {tys : Array TypeId} {R : Value → World → Prop} {ty : TypeId} {pos : String} {af : Array Edge} {g : Option (Nat × Bool)} (hc : RetX P f vs (fun k => v.ownBlock = some k) W R) (hf : Enters P f) (hS : St ds w W n a κ (l ++ rowB v cs T) Φ)
    (hw : Region.wanted ⟨some d, .call { callee := .value (.func f), args := args, argTypes := tys }, ty, pos, af, g⟩ (yielded ops a.tmps) = true) (hd : Nat.blt d n = true) (hx : evs κ args.toList = some vs)
    {Z : List Value → Prop} (hR : ∀ u W', R u W' → ∃ cs' : List Value, Z cs' ∧ ∀ b, v.ownBlock = some b → W'.heap[b]? = some (.cells cs'.toArray T (0, 0)))
    (K : ∀ u W' a cs', R u W' → Z cs' → St ds w W' n a ((d, u) :: κ) (l ++ rowB v cs' T) Φ → wpListIn (Fw r) m P ops Q rest a W') :
    wpListIn (Fw r) m P ops Q (⟨some d, .call { callee := .value (.func f), args := args, argTypes := tys }, ty, pos, af, g⟩ :: rest) a W := by
  refine wl_enter (f := f) (args := vs.toArray) hw (by simp) ?_ hc ?_
  · have h1 : args.map a.eval = vs.toArray := by rw [← hS.evs hx, ← Array.toList_map]
    simp only [execOp, resolve, Act.eval, Deferred.ofValue]
    have h2 := hf vs.toArray W
    simp [invoke, h1, h2]
  · rintro e W' ⟨u, rfl, hk, hR'⟩
    obtain ⟨cs', hZ, hcs⟩ := hR u W' hR'
    refine ⟨u, rfl, K u W' _ cs' hR' hZ (St.put ?_ hd u)⟩
    have hrow : ∀ k, v.ownBlock = some k → w.heap.size ≤ k ∧ W.heap[k]? = some (.cells cs.toArray T (0, 0)) := fun k hk' => ⟨hS.old _ (List.mem_append_right _ (rowB_mem (cs := cs) (T := T) hk')), hS.blk _ (List.mem_append_right _ (rowB_mem (cs := cs) (T := T) hk'))⟩
    have hdist := List.pairwise_append.1 hS.dist
    have hl : ∀ B ∈ l, ¬ v.ownBlock = some B.b := fun B hB e => hdist.2.2 B hB _ (rowB_mem (cs := cs) (T := T) e) rfl
    have hle := hS.below.size
    refine ⟨hS.size, ⟨hS.defers.1, fun D hD => ⟨(hS.defers.2 D hD).1, ?_⟩⟩, hS.get, ?_, fun B hB => ?_, fun B hB => ?_, ?_, fun W2 ho hz => ?_⟩
    · have h2 := (hS.defers.2 D hD).2
      rw [hk.same D (Array.getElem?_eq_some_iff.1 h2).1 (fun e => by rw [(hrow D e).2] at h2; cases h2)]; exact h2
    · exact hS.below.trans ⟨hk.os, hk.tape, hk.output, hk.size, fun k hk' => hk.same k (by omega) (fun e => by have := (hrow k e).1; omega)⟩
    · rcases List.mem_append.1 hB with hB | hB
      · rw [hk.same B.b (hS.lt (List.mem_append_left _ hB)) (hl B hB)]; exact hS.blk B (List.mem_append_left _ hB)
      · have e := rowB_of hB
        have h3 := hcs B.b e
        unfold rowB at hB; rw [e] at hB
        rw [List.mem_singleton.1 hB]; exact h3
    · rcases List.mem_append.1 hB with hB | hB
      · exact hS.old B (List.mem_append_left _ hB)
      · exact (hrow B.b (rowB_of hB)).1
    · refine List.pairwise_append.2 ⟨hdist.1, ?_, fun x hx y hy e => hl x hx (by rw [rowB_of hy, e])⟩
      unfold rowB; cases v.ownBlock with
      | none => exact List.Pairwise.nil
      | some k => exact List.pairwise_singleton _ _
    · refine hS.fact W2 ⟨ho.os.trans hk.os, ho.tape.trans hk.tape, ho.output.trans hk.output, fun k hk' hn => ?_⟩ (Nat.le_trans hk.size hz)
      have h4 : ¬ v.ownBlock = some k := fun e => hn _ (List.mem_append_right _ (rowB_mem (cs := cs) (T := T) e)) rfl
      rw [ho.same k (Nat.lt_of_lt_of_le hk' hk.size) (fun B hB e => ?_), hk.same k hk' h4]
      rcases List.mem_append.1 hB with hB | hB
      · exact hn B (List.mem_append_left _ hB) e
      · exact h4 (by rw [e]; exact rowB_of hB)
end
theorem ret_startO {P : Program} {f : FuncId} {fn : Func} {cd : Code} {n : Nat} {args : List Value} {X : Nat → Prop} {w : World} {R : Value → World → Prop} (hf : P.funcs[f]? = some fn) (hb : fn.body = some cd) (hn : fn.ntmps = n) (hk : Nat.ble args.length n = true) (l : List Blk)
    (hl : ∀ b ∈ l, w.heap[b.b]? = some (.cells b.cs.toArray b.T (0, 0))) (hd : l.Pairwise (fun x y => x.b ≠ y.b)) (hX : ∀ b ∈ l, X b.b)
    (h : ∀ a, St [] { w with heap := #[] } w n a (enumFrom 0 args) l (fun W => KX X w W) → cd.wpIn (Fw none) 2 P (bodyPost P fn fun e W' => ∃ v, e = .returned v ∧ KX X w W' ∧ R v W') a w) : RetX P f args X w R := by
  refine callsIn_wide.1 (callsIn_of_wp (F := Fence.wide) (n := 2) hf hb trivial ?_)
  refine h _ ⟨?_, ⟨rfl, fun D hD => (by cases hD)⟩, ?_, ⟨rfl, rfl, rfl, Nat.zero_le _, fun k hk => absurd hk (Nat.not_lt_zero k)⟩, hl, fun b hb => Nat.zero_le _, hd, fun W' ho hz => ⟨ho.os, ho.tape, ho.output, hz, fun k hk' hn' => ho.same k hk' fun b hb e => hn' (by rw [e]; exact hX b hb)⟩⟩
  · have := Nat.ble_eq.mp hk
    simp [hn]; omega
  · intro t v ht
    obtain ⟨_, h2⟩ := lk_enum args 0 t v ht
    have h3 : t < args.length := by
      rcases Nat.lt_or_ge t args.length with h | h
      · exact h
      · rw [List.getElem?_eq_none (by omega)] at h2; cases h2
    simp only [Array.getD_eq_getD_getElem?]
    rw [Array.getElem?_append_left (by simpa using h3)]
    simp only [List.getElem?_toArray]
    rw [Nat.sub_zero] at h2
    rw [h2]; rfl
theorem rowB_pair (v : Value) (cs : List Value) (T : TypeId) : (rowB v cs T).Pairwise (fun x y => x.b ≠ y.b) := by
  unfold rowB; cases v.ownBlock with
  | none => exact List.Pairwise.nil
  | some k => exact List.pairwise_singleton _ _
def kM (K : List (Pose × Int)) : PM := K.map fun x => (x.1, .int .i64 x.2)
def lkI : List (Pose × Int) → Pose → Int
  | [], _ => 0
  | (q, n) :: K, p => if p = q then n else lkI K p
def putI : List (Pose × Int) → Pose → Int → List (Pose × Int)
  | [], p, n => [(p, n)]
  | (q, u) :: K, p, n => if p = q then (q, n) :: K else (q, u) :: putI K p n
theorem lkp_kM (p : Pose) : ∀ K, (lkp (kM K) p).getD (.int .i64 0) = .int .i64 (lkI K p)
  | [] => rfl
  | (q, n) :: K => by
    have ih := lkp_kM p K
    have e : kM ((q, n) :: K) = (q, .int .i64 n) :: kM K := rfl
    rw [e, lkp_cons]
    unfold lkI
    by_cases h : p = q
    · rw [if_pos h, if_pos h]; rfl
    · rw [if_neg h, if_neg h]; exact ih
theorem putM_kM (p : Pose) (n : Int) : ∀ K, putM (kM K) p (.int .i64 n) = kM (putI K p n)
  | [] => rfl
  | (q, u) :: K => by
    have ih := putM_kM p n K
    show putM ((q, .int .i64 u) :: kM K) p (.int .i64 n) = _
    unfold putM putI
    by_cases h : p = q
    · rw [if_pos h, if_pos h]; rfl
    · rw [if_neg h, if_neg h, ih]; rfl
theorem lkI_put (p q : Pose) (n : Int) : ∀ K, lkI (putI K p n) q = if q = p then n else lkI K q
  | [] => rfl
  | (x, u) :: K => by
    have ih := lkI_put p q n K
    unfold putI
    by_cases h : p = x
    · rw [if_pos h]
      show (if q = x then n else lkI K q) = if q = p then n else (if q = x then u else lkI K q)
      rw [h]
      by_cases h2 : q = x
      · rw [if_pos h2, if_pos h2]
      · rw [if_neg h2, if_neg h2, if_neg h2]
    · rw [if_neg h]
      show (if q = x then u else lkI (putI K p n) q) = if q = p then n else (if q = x then u else lkI K q)
      rw [ih]
      by_cases h2 : q = x
      · rw [if_pos h2, if_pos h2, if_neg (fun e => h (by rw [← e, h2]))]
      · rw [if_neg h2, if_neg h2]
def Snd (S : Site) (K : List (Pose × Int)) : Prop := ∀ q, validP S q = true → (lkI K q = 2 → Cov S q = true) ∧ (lkI K q = 1 → Cov S q = false) ∧ (lkI K q = 0 ∨ lkI K q = 1 ∨ lkI K q = 2)
theorem Snd.nil (S : Site) : Snd S [] := fun q _ => ⟨fun h => by simp [lkI] at h, fun h => by simp [lkI] at h, .inl rfl⟩
theorem Snd.put {S : Site} {K : List (Pose × Int)} (h : Snd S K) {p : Pose} {n : Int} (hn : (n = 2 ∧ Cov S p = true) ∨ (n = 1 ∧ Cov S p = false)) : Snd S (putI K p n) := fun q hq => by
  rw [lkI_put]
  by_cases e : q = p
  · subst e; rw [if_pos rfl]
    rcases hn with ⟨rfl, h1⟩ | ⟨rfl, h1⟩
    · exact ⟨fun _ => h1, (fun h => by cases h), .inr (.inr rfl)⟩
    · exact ⟨(fun h => by cases h), fun _ => h1, .inr (.inl rfl)⟩
  · rw [if_neg e]; exact h q hq
theorem KX.kp {X : Nat → Prop} {A B : World} (h : KX X A B) (hX : ∀ k, X k → ∃ en c, A.heap[k]? = some (.map en c)) : Kp (fun _ => False) A B :=
  ⟨h.os, h.tape, h.output, h.size, fun k o hk hc _ => by
    rw [h.same k (Array.getElem?_eq_some_iff.1 hk).1 (fun hx => ?_)]
    · exact hk
    · obtain ⟨en, c, h1⟩ := hX k hx
      rw [hk] at h1; cases h1; cases hc⟩
section
variable {P : Program} {ds : List Nat} {w W : World} {n d : Nat} {a : Act} {κ : KV} {l : List Blk} {Φ : World → Prop} {x y : Operand} {ty T K E : TypeId} {pos : String} {af : Array Edge} {g : Option (Nat × Bool)}
theorem run_lookI {p : Pose} {b : Nat} {Ks : List (Pose × Int)} (hK : PKey P K) (hT : P.underlying T = some (.map K E)) (hz : ∀ w, (zeroValue E).run P w = .ok (.int .i64 0) w) (hS : St ds w W n a κ l Φ) (hx : ev κ x = some (.map (some b))) (hy : ev κ y = some (poseV p)) (hM : MapAt W b (kM Ks)) :
    (execOp a.eval ⟨some d, .lookup T x y false, ty, pos, af, g⟩).run P W = .ok (.value (.int .i64 (lkI Ks p))) W := by
  rw [run_lookM hK hT hz hS hx hy hM, if_neg (by decide), lkp_kM]
end
section
variable {P : Program} {r : Option Nat} {m : Nat} {Q : Exit → Act → World → Prop} {ds : List Nat} {w W : World} {n d : Nat} {a : Act} {κ κ0 : KV} {l : List Blk} {Φ : World → Prop} {x y : Operand} {v u u' : Value} {ty T K E : TypeId} {pos : String} {af : Array Edge} {g : Option (Nat × Bool)} {C : Code}
theorem run_index (hr : ∀ W, (Instr.index T v u).run P W = .ok u' W) (hS : St ds w W n a κ l Φ) (hx : ev κ x = some v) (hy : ev κ y = some u) : (execOp a.eval ⟨some d, .index T x y, ty, pos, af, g⟩).run P W = .ok (.value u') W := by
  simp only [execOp, hS.ev hx, hS.ev hy]
  rw [Sem.run_bind, hr]; rfl
theorem st_cutR {ι : Type} (lf : List Blk → ι → List Blk) (Z : ι → Prop) (hS : St ds w W n a κ l Φ) (h : C.wpIn (Fw r) m P (CutQ fun a W => ∃ i, Z i ∧ St ds w W n a κ (lf l i) Φ) a W) (K : ∀ i W a, Z i → St ds w W n a κ (lf l i) Φ → Q .normal a W) : C.wpIn (Fw r) m P Q a W :=
  wpIn_mono h fun e a' W' he => by obtain ⟨rfl, i, hz, hS'⟩ := he; exact K i W' a' hz hS'
end
end Go.Proofs.YtdnodlgebpnfoaaGreat
namespace Go.Proofs.YtdnodlgebpnfoaaGreat
open Go Go.RowKit Go.Shelf Sw
set_option maxRecDepth 100000 in
theorem pkey : PKey Tryz.prog 38 := by
  refine ⟨fun p q W => ?_, fun b p W => by kernel_rfl, ⟨_, Tryz.underlying38⟩⟩
  have h1 : (Op.equalIn 10000 38 (poseV p) (poseV q)).run Tryz.prog W = .ok (p.x == q.x && (p.speed == q.speed && p.height == q.height)) W := by
    rw [run_equalIn_struct W 9999 38 _ _ (by kernel_rfl) (by kernel_rfl)]
    rw [show Tryz.prog.fieldsOf 38 = _ from by simp only [Program.fieldsOf, Tryz.underlying38]; rfl]
    cases h0_ : p.x == q.x <;> cases h1_ : p.speed == q.speed <;> cases h2_ : p.height == q.height <;> simp [Op.eqFields, part, run_equalIn_int W 9998 3 .i64 .i64 _ _ Tryz.underlying3, h0_, h1_, h2_, Tryz.isAgg3]
  show (Op.equalIn 10000 38 (poseV p) (poseV q)).run Tryz.prog W = _
  rw [h1]
  congr 1
  rw [Bool.eq_iff_iff]
  cases p; cases q
  simp
structure WSt where
  E : List Nd
  i : Nat
  bq : Nat
  v : Value
  cs : List Value
  wc : World
  dd : List Nat
structure RSt where
  E : List Nd
  v : Value
  cs : List Value
  wc : World
structure WInv (nx : Pose → List Pose) (fin pass : Pose → Bool) (V : Pose → Prop) (p : Pose) (T : Nat → Prop) (I : World → Prop) (w : World) (x : WSt) : Prop where
  seen : Seen V p x.E
  le : x.i ≤ x.E.length
  bfs : bfs nx fin pass (7372 - x.i) x.E x.i = wayP nx fin pass p
  row : OwnQ poseC 3 x.v ((x.E.drop x.i).map (·.at_)) x.cs
  kx : KX T w x.wc
  size : x.wc.heap.size = w.heap.size
  inv : I x.wc
  marks : x.dd.Nodup
structure RInv (S : Site) (pass : Pose → Bool) (E : List Nd) (nd : Nd) (i : Nat) (v0 : Value) (N : Nat) (T : Nat → Prop) (I : World → Prop) (w : World) (pre : List Pose) (s : RSt) : Prop where
  ext : s.E = expN pass nd E (pre.map (clV S))
  row : OwnQ poseC 3 s.v ((s.E.drop i).map (·.at_)) s.cs
  kx : KX T w s.wc
  size : s.wc.heap.size = w.heap.size
  inv : I s.wc
  own : ∀ k, s.v.ownBlock = some k → v0.ownBlock = some k ∨ N ≤ k
def ndD : Nd := ⟨poseD, poseD, []⟩
def ndAt (E : List Nd) (j : Nat) : Nd := E.getD j ndD
theorem pose_eq {p q : Pose} (h1 : p.x = q.x) (h2 : p.speed = q.speed) (h3 : p.height = q.height) : p = q := by cases p; cases q; simp_all
theorem ndAt_some {E : List Nd} {j : Nat} (h : j < E.length) : E[j]? = some (ndAt E j) := by unfold ndAt; rw [List.getD_eq_getElem?_getD, List.getElem?_eq_getElem h]; rfl
theorem ndAt_of {E : List Nd} {j : Nat} {nd : Nd} (h : E[j]? = some nd) : ndAt E j = nd := by unfold ndAt; rw [List.getD_eq_getElem?_getD, h]; rfl
theorem lkE_at {E : List Nd} {j : Nat} {nd : Nd} (hn : (E.map (·.at_)).Nodup) (h : E[j]? = some nd) : lkE E nd.at_ = nd.par := by
  induction E generalizing j with
  | nil => simp at h
  | cons x E ih =>
    rw [lkE_cons]
    rw [List.map_cons, List.nodup_cons] at hn
    cases j with
    | zero => simp only [List.getElem?_cons_zero, Option.some.injEq] at h; rw [h, if_pos rfl]
    | succ j =>
      simp only [List.getElem?_cons_succ] at h
      rw [if_neg (fun e => hn.1 (by rw [e]; exact List.mem_map_of_mem (List.mem_of_getElem? h))), ih hn.2 h]
theorem at_inj {E : List Nd} (hn : (E.map (·.at_)).Nodup) {j k : Nat} {x y : Nd} (hj : E[j]? = some x) (hk : E[k]? = some y) (h : x.at_ = y.at_) : j = k := by
  obtain ⟨h1, e1⟩ := List.getElem?_eq_some_iff.1 hj; obtain ⟨h2, e2⟩ := List.getElem?_eq_some_iff.1 hk
  have h1' : j < (E.map (·.at_)).length := by simpa using h1
  have h2' : k < (E.map (·.at_)).length := by simpa using h2
  exact (List.getElem_inj (h₀ := h1') (h₁ := h2') hn).1 (by simp only [List.getElem_map]; rw [e1, e2, h])
theorem drop_head {E : List Nd} {i : Nat} {nd : Nd} (h : E[i]? = some nd) : ((E.drop i).map (·.at_)).getD 0 poseD = nd.at_ := by
  rw [List.getD_eq_getElem?_getD, List.getElem?_map, List.getElem?_drop, Nat.add_zero, h]; rfl
set_option maxHeartbeats 2000000 in
set_option maxRecDepth 100000 in
theorem engine_steps (X : CV) (S : Site) (p : Pose) (e : Bool) {w : World} : Ret Tryz.prog 125 [.agg (siteC X S).toArray, .agg (poseC p).toArray, .int .i64 ((engN e : Nat) : Int)] w (fun v W' => ∃ p1 p2 p3 : Addr, v = .func (.func 197) #[] #[.pointer (some p1), .pointer (some p2), .pointer (some p3)] ∧
    (CellsAt W' p1 (poseC p) ∧ CellsAt W' p2 (siteC X S) ∧ CellsAt W' p3 [.int .i64 ((engN e : Nat) : Int)]) ∧ w.heap.size ≤ p1.block ∧ w.heap.size ≤ p2.block ∧ w.heap.size ≤ p3.block) := by
 refine ret_start (n := 8) Tryz.func125 rfl rfl rfl (fun a hS => ?_)
 refine wpIn_seq ?_
 refine wpIn_region_lit ?_
 refine st_box_agg hS rfl rfl rfl fun W a b0 hS => st_box_agg hS rfl rfl rfl fun W a b1 hS => st_box_one hS rfl rfl rfl rfl fun W a b2 hS => st_v hS rfl rfl (run_assign hS rfl) fun a hS => wl_nil ?_
 refine wpIn_seq ?_
 refine wpIn_region_lit ?_
 refine st_v hS rfl rfl (run_makeFunc hS rfl rfl) fun a hS => st_v hS rfl rfl (run_assign hS rfl) fun a hS => wl_nil ?_
 refine wpIn_ret ?_
 repeat (first | refine q_ret ?_ | refine q_block_ret ?_)
 refine hS.done (res1 (fn := Tryz.f125) (r1 := .tmp 6) rfl (rv_tmp hS rfl)) ?_
 exact ⟨⟨b1, 0, none⟩, ⟨b0, 0, none⟩, ⟨b2, 0, none⟩, rfl, ⟨hS.cells (i := 1) rfl _ (Below.refl _ _), hS.cells (i := 2) rfl _ (Below.refl _ _), hS.cells (i := 0) rfl _ (Below.refl _ _)⟩, hS.old _ (nthB_in (i := 1) rfl), hS.old _ (nthB_in (i := 2) rfl), hS.old _ (nthB_in (i := 0) rfl)⟩
def Swapped (xs ys : List Pose) (i : Nat) : Prop := ys.length = xs.length ∧ ∀ k, k < xs.length → poseAt ys k = if k < i ∨ xs.length < k + 1 + i then poseAt xs (xs.length - 1 - k) else poseAt xs k
theorem poseAt_set (xs : List Pose) (j k : Nat) (q : Pose) (hj : j < xs.length) : poseAt (xs.set j q) k = if k = j then q else poseAt xs k := by
  unfold poseAt
  simp only [List.getD_eq_getElem?_getD, List.getElem?_set]
  by_cases h : j = k
  · subst h; simp [hj]
  · have h' : ¬ k = j := fun e => h e.symm
    simp [h, h']
theorem Swapped.next {xs ys : List Pose} {i j : Nat} (h : Swapped xs ys i) (hj : j + i + 1 = xs.length) (hij : i < j) : Swapped xs ((ys.set i (poseAt ys j)).set j (poseAt ys i)) (i + 1) := by
  obtain ⟨h1, h2⟩ := h
  refine ⟨by simp [h1], fun k hk => ?_⟩
  rw [poseAt_set _ _ _ _ (by simp; omega), poseAt_set _ _ _ _ (by omega)]
  have hi := h2 i (by omega)
  have hjv := h2 j (by omega)
  rw [if_neg (by omega)] at hi hjv
  by_cases e1 : k = j
  · subst e1; rw [if_pos rfl, hi, if_pos (by omega)]; congr 1; omega
  · rw [if_neg e1]
    by_cases e2 : k = i
    · subst e2; rw [if_pos rfl, hjv, if_pos (by omega)]; congr 1; omega
    · rw [if_neg e2, h2 k hk]
      by_cases e3 : k < i ∨ xs.length < k + 1 + i
      · rw [if_pos e3, if_pos (by omega)]
      · rw [if_neg e3, if_neg (by omega)]
theorem Swapped.all {xs ys : List Pose} {i : Nat} (h : Swapped xs ys i) (hi : xs.length ≤ i + 1 + i) : ys = xs.reverse := by
  obtain ⟨h1, h2⟩ := h
  apply List.ext_getElem
  · rw [List.length_reverse, h1]
  · intro k hk hk'
    have hk2 : k < xs.length := by omega
    have h3 := h2 k hk2
    rw [List.getElem_reverse]
    have e1 : poseAt ys k = ys[k] := by simp [poseAt, List.getD_eq_getElem?_getD, hk]
    rw [← e1, h3]
    by_cases e3 : k < i ∨ xs.length < k + 1 + i
    · rw [if_pos e3]; simp [poseAt, List.getD_eq_getElem?_getD, show xs.length - 1 - k < xs.length by omega]
    · rw [if_neg e3]
      have : xs.length - 1 - k = k := by omega
      simp [poseAt, List.getD_eq_getElem?_getD, hk2, this]
set_option maxHeartbeats 2000000 in
set_option maxRecDepth 100000 in
theorem rev_poses {v : Value} {xs : List Pose} {cs : List Value} {w : World} (hO : OwnQ poseC 3 v xs cs) (hb0 : ∀ b, v.ownBlock = some b → w.heap[b]? = some (.cells cs.toArray 38 (0, 0))) (hlen : xs.length ≤ 10000) :
    RetX Tryz.prog 199 [v] (fun k => v.ownBlock = some k) w (fun _ W' => ∃ cs' : List Value, OwnQ poseC 3 v xs.reverse cs' ∧ ∀ b, v.ownBlock = some b → W'.heap[b]? = some (.cells cs'.toArray 38 (0, 0))) := by
 refine ret_startO (n := 28) Tryz.func199 rfl rfl rfl (rowB v cs 38) (fun b hb => by have e := rowB_of hb; have h := hb0 _ e; unfold rowB at hb; rw [e] at hb; rw [List.mem_singleton.1 hb]; exact h) (rowB_pair _ _ _) (fun b hb => rowB_of hb) (fun a hS => ?_)
 refine wpIn_seq ?_
 refine wpIn_region_lit ?_
 refine st_v hS rfl rfl (run_move hS rfl) fun a hS => st_v hS rfl rfl (run_lenQ Tryz.underlying45 hS hO rfl) fun a hS => st_v hS rfl rfl (run_sub (t := (((xs.length : Nat) : Int) - 1 - ((0 : Nat) : Int))) hS rfl rfl (by omega) (by omega) (by omega)) fun a hS => st_v hS rfl rfl (run_assign hS rfl) fun a hS => st_v hS rfl rfl (run_assign hS rfl) fun a hS => wl_nil ?_
 refine wpIn_block ?_
 refine st_loop2 (α := Nat × List Pose × List Value) (fun z => [(0, v), (2, .int .i64 ((z.1 : Nat) : Int)), (3, .int .i64 (((xs.length : Nat) : Int) - 1 - ((z.1 : Nat) : Int)))]) [] (fun l z => l.take 0 ++ rowB v z.2.2 38) (fun z => Swapped xs z.2.1 z.1 ∧ OwnQ poseC 3 v z.2.1 z.2.2) (fun z => xs.length - z.1) (⟨0, xs, cs⟩) hS (Sub.cons rfl (Sub.cons rfl (Sub.cons rfl Sub.nil))) rfl (⟨⟨rfl, fun k hk => by rw [if_neg (by omega)]⟩, hO⟩) (fun z W a hφ hS => ?_)
 obtain ⟨i, ys, cs'⟩ := z
 dsimp only [setB, List.cons_append, List.nil_append, List.take] at hS hφ
 obtain ⟨hsw, hO'⟩ := hφ
 have hyl := hsw.1
 refine wpIn_seq ?_
 refine wpIn_seq ?_
 refine wpIn_region_lit ?_
 refine st_v hS rfl rfl (run_move hS rfl) fun a hS => st_v hS rfl rfl (run_move hS rfl) fun a hS => st_v hS rfl rfl (run_bin hS rfl rfl rfl) fun a hS => wl_nil ?_
 refine st_cond hS rfl (fun hc1 => ?_) (fun hc1 => ?_)
 ·
  try simp only [ty] at hc1
  obtain ⟨j, hjE⟩ : ∃ j : Nat, (((xs.length : Nat) : Int) - 1 - ((i : Nat) : Int)) = (j : Int) := ⟨_, (Int.toNat_of_nonneg (by omega)).symm⟩
  refine wpIn_skip ?_
  refine wpIn_seq ?_
  refine wpIn_block ?_
  refine anyh_start (by kernel_rfl) [] hS fun W hS => ?_
  refine anyh_take (i := 0) [] hS (fun _ h => h) rfl rfl (by kernel_rfl) (by kernel_rfl) (by kernel_rfl) rfl rfl (fun W' hS => run_move hS rfl) fun a hS => ?_
  refine anyh_take (i := 1) [] hS (fun _ h => h) rfl rfl (by kernel_rfl) (by kernel_rfl) (by kernel_rfl) rfl rfl (fun W' hS => run_move hS rfl) fun a hS => ?_
  refine anyh_take (i := 2) [] hS (fun _ h => h) rfl rfl (by kernel_rfl) (by kernel_rfl) (by kernel_rfl) rfl rfl (fun W' hS => run_move hS rfl) fun a hS => ?_
  refine anyh_take (i := 3) [] hS (fun _ h => h) rfl rfl (by kernel_rfl) (by kernel_rfl) (by kernel_rfl) rfl rfl (fun W' hS => run_move hS rfl) fun a hS => ?_
  refine anyh_take (i := 4) [] hS (fun _ h => h) rfl rfl (by kernel_rfl) (by kernel_rfl) (by kernel_rfl) rfl rfl (fun W' hS => run_move hS rfl) fun a hS => ?_
  refine anyh_take (i := 5) [] hS (fun _ h => h) rfl rfl (by kernel_rfl) (by kernel_rfl) (by kernel_rfl) rfl rfl (fun W' hS => run_move hS rfl) fun a hS => ?_
  refine anyh_take (i := 6) [] hS (fun _ h => h) rfl rfl (by kernel_rfl) (by kernel_rfl) (by kernel_rfl) rfl rfl (fun W' hS => run_idxQ (enc := poseC) (sz := 3) (fun _ => rfl) Tryz.underlying45 Tryz.sizeOf38 hS hO' rfl rfl (j := ((((xs.length : Nat) : Int) - 1 - ((i : Nat) : Int))).toNat) (by omega) (by omega)) fun a hS => ?_
  refine anyh_take (i := 8) [] hS (fun _ h => h) rfl rfl (by kernel_rfl) (by kernel_rfl) (by kernel_rfl) rfl rfl (fun W' hS => run_move hS rfl) fun a hS => ?_
  refine anyh_take (i := 9) [] hS (fun _ h => h) rfl rfl (by kernel_rfl) (by kernel_rfl) (by kernel_rfl) rfl rfl (fun W' hS => run_move hS rfl) fun a hS => ?_
  refine anyh_take (i := 10) [] hS (fun _ h => h) rfl rfl (by kernel_rfl) (by kernel_rfl) (by kernel_rfl) rfl rfl (fun W' hS => run_idxQ (enc := poseC) (sz := 3) (fun _ => rfl) Tryz.underlying45 Tryz.sizeOf38 hS hO' rfl rfl (j := i) (by omega) (by omega)) fun a hS => ?_
  refine anyh_go (rs := [7, 11]) (by kernel_rfl) (by simp) ⟨⟨_, rfl, ?_⟩, ⟨_, rfl, ?_⟩, trivial⟩
  ·
   refine st_v hS rfl rfl (run_loadQ (enc := poseC) (sz := 3) (fun _ => rfl) Tryz.isAgg38 Tryz.sizeOf38 hS (fun B hB => List.mem_append_right [] hB) hO' rfl (by omega) poseD) fun a hS => wl_nil ?_
   refine anyh_next [] hS (fun _ h => h) rfl ?_
   refine anyh_go (rs := [11]) (by kernel_rfl) (by simp) ⟨⟨_, rfl, ?_⟩, trivial⟩
   refine st_v hS rfl rfl (run_loadQ (enc := poseC) (sz := 3) (fun _ => rfl) Tryz.isAgg38 Tryz.sizeOf38 hS (fun B hB => List.mem_append_right [] hB) hO' rfl (by omega) poseD) fun a hS => wl_nil ?_
   refine anyh_next [] hS (fun _ h => h) rfl ?_
   refine anyh_take (i := 12) [] hS (fun _ h => h) rfl rfl (by kernel_rfl) (by kernel_rfl) (by kernel_rfl) rfl rfl (fun W' hS => run_idxQ (enc := poseC) (sz := 3) (fun _ => rfl) Tryz.underlying45 Tryz.sizeOf38 hS hO' rfl rfl (j := i) (by omega) (by omega)) fun a hS => ?_
   refine anyh_go (rs := [13]) (by kernel_rfl) (by simp) ⟨⟨_, rfl, ?_⟩, trivial⟩
   refine st_storeQ (l := []) (q := (poseAt ys ((((xs.length : Nat) : Int) - 1 - ((i : Nat) : Int))).toNat)) (enc := poseC) (sz := 3) (fun _ => rfl) (fun _ => rfl) Tryz.sizeOf38 hS hO' rfl rfl (by omega) rfl rfl fun W a cs0 hO0 hS => ?_
   refine wl_nil ?_
   refine anyh_next [] hS (fun _ h => h) rfl ?_
   refine anyh_take (i := 14) [] hS (fun _ h => h) rfl rfl (by kernel_rfl) (by kernel_rfl) (by kernel_rfl) rfl rfl (fun W' hS => run_idxQ (enc := poseC) (sz := 3) (fun _ => rfl) Tryz.underlying45 Tryz.sizeOf38 hS hO0 rfl rfl (j := ((((xs.length : Nat) : Int) - 1 - ((i : Nat) : Int))).toNat) (by omega) (by first | omega | (simp only [List.length_set]; omega))) fun a hS => ?_
   refine anyh_go (rs := [15]) (by kernel_rfl) (by simp) ⟨⟨_, rfl, ?_⟩, trivial⟩
   refine st_storeQ (l := []) (q := (poseAt ys i)) (enc := poseC) (sz := 3) (fun _ => rfl) (fun _ => rfl) Tryz.sizeOf38 hS hO0 rfl rfl (by first | omega | (simp only [List.length_set]; omega)) rfl rfl fun W a cs1 hO1 hS => ?_
   refine wl_nil ?_
   refine anyh_next [] hS (fun _ h => h) rfl ?_
   refine anyh_done (by kernel_rfl) ?_ _
   refine wpIn_region_lit ?_
   refine st_v hS rfl rfl (run_move hS rfl) fun a hS => st_v hS rfl rfl (run_add (t := ((i + 1 : Nat) : Int)) hS rfl rfl (by omega) (by omega) (by omega)) fun a hS => st_v hS rfl rfl (run_move hS rfl) fun a hS => st_v hS rfl rfl (run_sub (t := (((xs.length : Nat) : Int) - 1 - ((i + 1 : Nat) : Int))) hS rfl rfl (by omega) (by omega) (by omega)) fun a hS => st_v hS rfl rfl (run_assign hS rfl) fun a hS => st_v hS rfl rfl (run_assign hS rfl) fun a hS => wl_nil ?_
   refine ⟨⟨i + 1, _, _⟩, ⟨⟨?_, by assumption⟩, by dsimp only; omega⟩, (hS.sub (Sub.cons rfl (Sub.cons rfl (Sub.cons rfl Sub.nil))))⟩
   have e1 : ((((xs.length : Nat) : Int) - 1 - ((i : Nat) : Int))).toNat = j := by omega
   rw [e1]
   exact hsw.next (by omega) (by omega)
  ·
   refine st_v hS rfl rfl (run_loadQ (enc := poseC) (sz := 3) (fun _ => rfl) Tryz.isAgg38 Tryz.sizeOf38 hS (fun B hB => List.mem_append_right [] hB) hO' rfl (by omega) poseD) fun a hS => wl_nil ?_
   refine anyh_next [] hS (fun _ h => h) rfl ?_
   refine anyh_go (rs := [7]) (by kernel_rfl) (by simp) ⟨⟨_, rfl, ?_⟩, trivial⟩
   refine st_v hS rfl rfl (run_loadQ (enc := poseC) (sz := 3) (fun _ => rfl) Tryz.isAgg38 Tryz.sizeOf38 hS (fun B hB => List.mem_append_right [] hB) hO' rfl (by omega) poseD) fun a hS => wl_nil ?_
   refine anyh_next [] hS (fun _ h => h) rfl ?_
   refine anyh_take (i := 12) [] hS (fun _ h => h) rfl rfl (by kernel_rfl) (by kernel_rfl) (by kernel_rfl) rfl rfl (fun W' hS => run_idxQ (enc := poseC) (sz := 3) (fun _ => rfl) Tryz.underlying45 Tryz.sizeOf38 hS hO' rfl rfl (j := i) (by omega) (by omega)) fun a hS => ?_
   refine anyh_go (rs := [13]) (by kernel_rfl) (by simp) ⟨⟨_, rfl, ?_⟩, trivial⟩
   refine st_storeQ (l := []) (q := (poseAt ys ((((xs.length : Nat) : Int) - 1 - ((i : Nat) : Int))).toNat)) (enc := poseC) (sz := 3) (fun _ => rfl) (fun _ => rfl) Tryz.sizeOf38 hS hO' rfl rfl (by omega) rfl rfl fun W a cs2 hO2 hS => ?_
   refine wl_nil ?_
   refine anyh_next [] hS (fun _ h => h) rfl ?_
   refine anyh_take (i := 14) [] hS (fun _ h => h) rfl rfl (by kernel_rfl) (by kernel_rfl) (by kernel_rfl) rfl rfl (fun W' hS => run_idxQ (enc := poseC) (sz := 3) (fun _ => rfl) Tryz.underlying45 Tryz.sizeOf38 hS hO2 rfl rfl (j := ((((xs.length : Nat) : Int) - 1 - ((i : Nat) : Int))).toNat) (by omega) (by first | omega | (simp only [List.length_set]; omega))) fun a hS => ?_
   refine anyh_go (rs := [15]) (by kernel_rfl) (by simp) ⟨⟨_, rfl, ?_⟩, trivial⟩
   refine st_storeQ (l := []) (q := (poseAt ys i)) (enc := poseC) (sz := 3) (fun _ => rfl) (fun _ => rfl) Tryz.sizeOf38 hS hO2 rfl rfl (by first | omega | (simp only [List.length_set]; omega)) rfl rfl fun W a cs3 hO3 hS => ?_
   refine wl_nil ?_
   refine anyh_next [] hS (fun _ h => h) rfl ?_
   refine anyh_done (by kernel_rfl) ?_ _
   refine wpIn_region_lit ?_
   refine st_v hS rfl rfl (run_move hS rfl) fun a hS => st_v hS rfl rfl (run_add (t := ((i + 1 : Nat) : Int)) hS rfl rfl (by omega) (by omega) (by omega)) fun a hS => st_v hS rfl rfl (run_move hS rfl) fun a hS => st_v hS rfl rfl (run_sub (t := (((xs.length : Nat) : Int) - 1 - ((i + 1 : Nat) : Int))) hS rfl rfl (by omega) (by omega) (by omega)) fun a hS => st_v hS rfl rfl (run_assign hS rfl) fun a hS => st_v hS rfl rfl (run_assign hS rfl) fun a hS => wl_nil ?_
   refine ⟨⟨i + 1, _, _⟩, ⟨⟨?_, by assumption⟩, by dsimp only; omega⟩, (hS.sub (Sub.cons rfl (Sub.cons rfl (Sub.cons rfl Sub.nil))))⟩
   have e1 : ((((xs.length : Nat) : Int) - 1 - ((i : Nat) : Int))).toNat = j := by omega
   rw [e1]
   exact hsw.next (by omega) (by omega)
 ·
  try simp only [ty] at hc1
  refine wpIn_exit ?_
  refine ⟨hS.defers.1, _, res0 (fn := Tryz.f199) rfl, _, rfl, hS.now, ?_⟩
  have e := hsw.all (by omega)
  subst e
  exact ⟨cs', hO', fun b hb => hS.blk _ (rowB_mem hb)⟩
set_option maxHeartbeats 8000000 in
set_option maxRecDepth 100000 in
theorem engine_way {X : CV} {S : Site} {p0 : Pose} {e : Bool} {fe fp : FuncId} {fie cape capp : List Value} {fin pass : Pose → Bool} {T : Nat → Prop} {I : World → Prop} {w : World} {FX : Nat → Prop} (hX : SiteR FX w X S) (hP : SiteP S) (hv : validP S p0 = true)
    (hI : ∀ A B, I A → Agree w.heap.size A B → I B) (hI0 : I w) (hT : ∀ k, T k → k < w.heap.size) (hTm : ∀ A k, I A → T k → ∃ en c, A.heap[k]? = some (.map en c)) (hF : ∀ k, FX k → ¬ T k)
    (hfe : Enters Tryz.prog fe) (hend : ∀ W, KX T w W → I W → ∀ p, validP S p = true → Ret Tryz.prog fe (fie ++ [.agg (poseC p).toArray] ++ cape) W (fun v _ => v = .bool (fin p)))
    (hfp : Enters Tryz.prog fp) (hpass : ∀ W, KX T w W → I W → ∀ q, validP S q = true → RetX Tryz.prog fp ([] ++ [.agg (poseC q).toArray] ++ capp) T W (fun v W' => v = .bool (pass q) ∧ I W')) :
    RetX Tryz.prog 128 [.agg (siteC X S).toArray, .agg (poseC p0).toArray, .int .i64 ((engN e : Nat) : Int), .func (.func fe) fie.toArray cape.toArray, .func (.func fp) #[] capp.toArray] T w (fun v W' => I W' ∧ ∃ s : SV, v = .tuple #[.slice s.a ((wayP (stepsL S e) fin pass p0).getD []).length s.c, .bool (wayP (stepsL S e) fin pass p0).isSome] ∧ Sl kPose (fun k => w.heap.size ≤ k) W' s ((wayP (stepsL S e) fin pass p0).getD [])) := by
 refine ret_startX (n := 75) Tryz.func128 rfl rfl rfl (fun a hS => ?_)
 have htop := hP.cr.top
 obtain ⟨F0, hF0⟩ : ∃ F0 : Nat → Prop, F0 = fun k => FX k ∧ k < w.heap.size := ⟨_, rfl⟩
 have hX0 : SiteR F0 w X S := by rw [hF0]; exact hX.deep
 have hF : ∀ k, F0 k → ¬ T k ∧ k < w.heap.size := fun k hk => by rw [hF0] at hk; exact ⟨hF k hk.1, hk.2⟩
 have HX : ∀ W, Below w.heap.size w W → SiteR F0 W X S := fun W hb => hX0.at_ hb
 refine wpIn_seq ?_
 refine wpIn_region_lit ?_
 refine st_box_agg hS rfl rfl rfl fun W a b0 hS => st_box_agg hS rfl rfl rfl fun W a b1 hS => st_box_one hS rfl rfl rfl rfl fun W a b2 hS => st_v hS rfl rfl (run_assign hS rfl) fun a hS => st_v hS rfl rfl (run_assign hS rfl) fun a hS => wl_nil ?_
 refine wpIn_seq ?_
 refine wpIn_region_lit ?_
 refine st_makeMap hS rfl rfl fun W a m0 hm0 hS => ?_
 refine st_v hS rfl rfl (run_load_all (i := 1) Tryz.isAgg38 Tryz.sizeOf38 hS rfl rfl rfl) fun a hS => st_v hS rfl rfl (run_load_all (i := 1) Tryz.isAgg38 Tryz.sizeOf38 hS rfl rfl rfl) fun a hS => ?_
 refine st_ins pkey Tryz.underlying214 hS (fun _ _ _ => trivial) (hm0) rfl rfl rfl rfl fun W a hS => ?_
 have hS := hS.less (fun W h => (⟨h.1, by rw [← (show putM [] p0 (poseV p0) = mapE (root p0) from rfl)]; exact h.2⟩ : _ ∧ MapAt W m0 (mapE (root p0))))
 refine st_v hS rfl rfl (run_move hS rfl) fun a hS => st_alloc_one Tryz.zeroValue214 rfl hS rfl rfl fun W a b3 hS => st_store (i := 0) Tryz.sizeOf214 hS rfl rfl rfl rfl rfl rfl rfl rfl rfl fun W a hS => wl_nil ?_
 refine wpIn_seq ?_
 refine wpIn_seq ?_
 refine wpIn_region_lit ?_
 refine st_v hS rfl rfl (run_load_all (i := 2) Tryz.isAgg38 Tryz.sizeOf38 hS rfl rfl rfl) fun a hS => st_buildSlice (pv := [(0, .agg #[.int .i64 _, .int .i64 _, .int .i64 _])]) (fun W => bs45_1_0 _ _ _ W) hS rfl rfl rfl fun W a b4 hS => ?_
 have hO4 : OwnQ poseC 3 (.slice (some ⟨b4, 0, none⟩) 1 1) ([p0]) _ := OwnQ.of (OwnR.made b4 1 3 _ rfl (by decide))
 have hS := hS.toRow (k := 1) (c := 1)
 refine st_alloc_one Tryz.zeroValue45 rfl hS rfl rfl fun W a b5 hS => st_store (vs := [(.slice (some ⟨b4, 0, none⟩) 1 1)]) (i := 0) Tryz.sizeOf45 hS rfl rfl rfl rfl (OwnQ.cells1 hO4) rfl rfl (allc (OwnQ.one1 hO4) rfl) rfl fun W a hS => wl_nil ?_
 refine wpIn_block ?_
 refine st_loopW (α := WSt) (fun z => z.dd) (fun z => z.wc) (fun z => [(13, .pointer (some ⟨z.bq, 0, none⟩))]) [(0, _), (1, _), (2, _), (3, _), (4, _), (5, _), (6, _), (9, _), (12, _)] (fun z => [⟨z.bq, [z.v], 45⟩]) [_, _, _, _] (fun z => rowB z.v z.cs 38) (fun z W => MapAt W m0 (mapE z.E)) (WInv (stepsL S e) fin pass (fun q => validP S q = true) p0 T I w) (fun z => 7372 - z.i) ⟨root p0, 0, b5, (.slice (some ⟨b4, 0, none⟩) 1 1), _, w, []⟩ hS (Sub.cons rfl (Sub.cons rfl (Sub.cons rfl (Sub.cons rfl (Sub.cons rfl (Sub.cons rfl (Sub.cons rfl (Sub.cons rfl (Sub.cons rfl (Sub.cons rfl Sub.nil)))))))))) rfl rfl rfl (fun _ h => h.2) ⟨Seen.root hv, Nat.zero_le _, rfl, hO4, KX.refl T w, rfl, hI0, List.nodup_nil⟩ (fun z W a hφ hS => ?_)
 obtain ⟨E, i, b5, v, cs, wc, dd⟩ := z
 dsimp only [List.cons_append, List.nil_append] at hS
 obtain ⟨hseen, hle, hbfs, hO, hkx, hzc, hIc, hdd⟩ := hφ
 dsimp only at hseen hle hbfs hO hkx hzc hIc hdd
 have hfew := hseen.few htop.2
 have HX : ∀ W, Below wc.heap.size wc W → SiteR F0 W X S := fun W hb => (hX0.keep (fun k hk hlt => hkx.same k hlt (hF k hk).1)).at_ hb
 have hKW : ∀ W, Below wc.heap.size wc W → KX T w W := fun W hb => hkx.trans (KX.of hb)
 have hIW : ∀ W, Below wc.heap.size wc W → I W := fun W hb => hI _ _ hIc (fun k hk => hb.block k (by omega))
 refine wpIn_seq ?_
 refine wpIn_seq ?_
 refine wpIn_region_lit ?_
 refine st_v hS rfl rfl (run_load_one (i := 0) Tryz.isAgg45 hS rfl rfl rfl) fun a hS => st_v hS rfl rfl (run_lenQ Tryz.underlying45 hS hO rfl) fun a hS => st_v hS rfl rfl (run_bin hS rfl rfl rfl) fun a hS => wl_nil ?_
 refine st_cond hS rfl (fun hc1 => ?_) (fun hc1 => ?_)
 ·
  try simp only [ty] at hc1
  have hil : i < E.length := by have h := hc1; simp only [List.length_map, List.length_drop] at h; omega
  have hnd := ndAt_some hil
  have hndv := hseen.valid _ (List.mem_of_getElem? hnd)
  refine wpIn_skip ?_
  refine wpIn_seq ?_
  refine wpIn_block ?_
  refine wpIn_seq ?_
  refine wpIn_region_lit ?_
  refine st_v hS rfl rfl (run_load_one (i := 0) Tryz.isAgg45 hS rfl rfl rfl) fun a hS => st_v hS rfl rfl (run_idxQ (enc := poseC) (sz := 3) (fun _ => rfl) Tryz.underlying45 Tryz.sizeOf38 hS hO rfl rfl (j := 0) (by omega) (by omega)) fun a hS => ?_
  refine st_v hS rfl rfl (run_loadQ (j := 0) (enc := poseC) (sz := 3) (fun _ => rfl) Tryz.isAgg38 Tryz.sizeOf38 hS (fun B hB => List.mem_append_right [_, _, _, _, _] hB) hO rfl (by omega) poseD) fun a hS => ?_
  rw [drop_head hnd] at hS
  refine st_alloc_agg Tryz.zeroValue38 hS rfl rfl fun W a b6 hS => st_store (i := 0) Tryz.sizeOf38 hS rfl rfl rfl rfl rfl rfl rfl rfl rfl fun W a hS => wl_nil ?_
  refine wpIn_seq ?_
  refine wpIn_seq ?_
  refine wpIn_region_lit ?_
  refine st_v hS rfl rfl (run_move hS rfl) fun a hS => st_v hS rfl rfl (run_load_all (i := 0) Tryz.isAgg38 Tryz.sizeOf38 hS rfl rfl rfl) fun a hS => st_callv hS rfl rfl (hfe) (hend _ (hKW _ hS.below) (hIW _ hS.below) _ hndv) rfl rfl fun v W a hR hB hlt hS => ?_
  subst hR
  refine wl_nil ?_
  refine st_cond hS rfl (fun hc2 => ?_) (fun hc2 => ?_)
  ·
   try simp only [ty] at hc2
   have hS := hS.drop (l' := [_, _, _, _, _, _]) (List.sublist_append_left [_, _, _, _, _, _] _)
   refine wpIn_seq ?_
   refine wpIn_region_lit ?_
   refine st_v hS rfl rfl (run_assign hS rfl) fun a hS => wl_nil ?_
   refine wpIn_seq ?_
   refine wpIn_block ?_
   refine st_loop2 (α := Nat × List Pose × Value × List Value) (fun z => [(15, z.2.2.1)]) [(0, _), (1, _), (2, _), (3, _), (4, _), (5, _), (6, _), (9, _), (12, _), (13, _), (14, _)] (fun l z => setB (l.take 6 ++ rowB z.2.2.1 z.2.2.2 38) 0 (poseC (ndAt E z.1).at_)) (fun z => z.1 < E.length ∧ (ndAt E i).way = (ndAt E z.1).way ++ z.2.1.reverse ∧ z.2.1.length + z.1 ≤ i ∧ OwnL poseC 3 z.2.2.1 z.2.1 z.2.2.2) (fun z => z.1) (⟨i, [], .slice none 0 0, []⟩) hS (Sub.cons rfl (Sub.cons rfl (Sub.cons rfl (Sub.cons rfl (Sub.cons rfl (Sub.cons rfl (Sub.cons rfl (Sub.cons rfl (Sub.cons rfl (Sub.cons rfl (Sub.cons rfl (Sub.cons rfl Sub.nil)))))))))))) rfl (⟨hil, by simp, by simp, OwnR.nil 3⟩) (fun z W a hφ hS => ?_)
   obtain ⟨j, L, v', cs'⟩ := z
   dsimp only [setB, List.cons_append, List.nil_append, List.take] at hS hφ
   obtain ⟨hj, hway, hLj, hO'⟩ := hφ
   have hjn := ndAt_some hj
   refine wpIn_seq ?_
   refine wpIn_seq ?_
   refine wpIn_region_lit ?_
   refine st_v hS rfl rfl (run_load_all (i := 0) Tryz.isAgg38 Tryz.sizeOf38 hS rfl rfl rfl) fun a hS => st_v hS rfl rfl (run_load_all (i := 4) Tryz.isAgg38 Tryz.sizeOf38 hS rfl rfl rfl) fun a hS => st_v hS rfl rfl (run_test hS rfl rfl (fun W => eqN38 _ _ _ _ _ _ _ _ W)) fun a hS => wl_nil ?_
   refine st_cond hS rfl (fun hc3 => ?_) (fun hc3 => ?_)
   ·
    try simp only [ty] at hc3
    have hj0 : 1 ≤ j := by
      rcases Nat.eq_zero_or_pos j with h0 | h0
      · subst h0; exfalso; rw [ndAt_of hseen.zero] at hc3; simp at hc3
      · exact h0
    obtain ⟨k', m', hk', hm', hpar, hwm⟩ := hseen.pars j _ hjn hj0
    have ek := ndAt_of hm'
    refine wpIn_skip ?_
    refine wpIn_seq ?_
    refine wpIn_block ?_
    refine wpIn_region_lit ?_
    refine st_v hS rfl rfl (run_move hS rfl) fun a hS => st_v hS rfl rfl (run_load_all (i := 0) Tryz.isAgg38 Tryz.sizeOf38 hS rfl rfl rfl) fun a hS => st_buildSlice (pv := [(0, .agg #[.int .i64 _, .int .i64 _, .int .i64 _])]) (fun W => bs45_1_0 _ _ _ W) hS rfl rfl rfl fun W a b7 hS => st_append (l := [_, _, _, _, _, _, _]) (cs := cs') Tryz.underlying45 (AI.of ai38) (by decide) hS hO' rfl rfl rfl rfl (src_own (sz := 3) Tryz.underlying45 hS (i := 0) rfl rfl rfl) (by omega) fun W a v1 cs1 hO1 hS => ?_
    have hO1' : OwnL poseC 3 v1 (L ++ [(ndAt E j).at_]) cs1 := OwnL.app hO1 rfl rfl rfl rfl
    refine st_v hS rfl rfl (run_assign hS rfl) fun a hS => wl_nil ?_
    refine wpIn_region_lit ?_
    refine st_v hS rfl rfl (run_load_one (i := 3) Tryz.isAgg214 hS rfl rfl rfl) fun a hS => st_v hS rfl rfl (run_load_all (i := 1) Tryz.isAgg38 Tryz.sizeOf38 hS rfl rfl rfl) fun a hS => st_v hS rfl rfl (run_lookE0 pkey Tryz.underlying214 Tryz.zeroValue38 hS rfl rfl (hS.now)) fun a hS => st_store (i := 1) Tryz.sizeOf38 hS rfl rfl rfl rfl rfl rfl rfl rfl rfl fun W a hS => wl_nil ?_
    have e1 : lkE E (ndAt E j).at_ = (ndAt E k').at_ := by rw [lkE_at hseen.nodup hjn, hpar, ek]
    rw [e1] at hS
    refine ⟨⟨k', L ++ [(ndAt E j).at_], _, _⟩, ⟨⟨by dsimp only; omega, by dsimp only; rw [hway, hwm, ek]; simp, by dsimp only; simp only [List.length_append, List.length_singleton]; omega, ?_⟩, by dsimp only; omega⟩, (hS.sub (Sub.cons rfl (Sub.cons rfl (Sub.cons rfl (Sub.cons rfl (Sub.cons rfl (Sub.cons rfl (Sub.cons rfl (Sub.cons rfl (Sub.cons rfl (Sub.cons rfl (Sub.cons rfl (Sub.cons rfl Sub.nil))))))))))))).drop (List.Sublist.cons _ (List.Sublist.refl _))⟩
    assumption
   ·
    try simp only [ty] at hc3
    have hj0 : j = 0 := at_inj hseen.nodup hjn hseen.zero (by simp only [Bool.and_eq_true, beq_iff_eq] at hc3; exact pose_eq hc3.1 hc3.2.1 hc3.2.2)
    subst hj0
    rw [ndAt_of hseen.zero] at hway; simp only [List.nil_append] at hway
    have hwy : wayP (stepsL S e) fin pass p0 = some L.reverse := by rw [← hbfs, show 7372 - i = (7371 - i) + 1 by omega, bfs_found hnd hc2, hway]
    refine wpIn_exit ?_
    refine wpIn_seq ?_
    refine wpIn_region_lit ?_
    refine st_v hS rfl rfl (run_move hS rfl) fun a hS => ?_
    refine st_callR (l := [_, _, _, _, _, _]) (Z := fun cs => OwnQ poseC 3 v' L.reverse cs) (rev_poses (OwnQ.of (enc := poseC) (sz := 3) hO') (fun b hb => hS.blk _ (List.mem_append_right [_, _, _, _, _, _] (rowB_mem hb))) (by omega)) Tryz.call199 hS rfl rfl rfl (fun u W' h => h) (fun u W a cs2 hR hO2 hS => ?_)
    refine wl_nil ?_
    refine wpIn_seq ?_
    refine wpIn_region_lit ?_
    refine st_v hS rfl rfl (run_move hS rfl) fun a hS => st_v hS rfl rfl (run_assign hS rfl) fun a hS => st_v hS rfl rfl (run_assign hS rfl) fun a hS => wl_nil ?_
    refine wpIn_ret ?_
    repeat (first | refine q_ret ?_ | refine q_block_ret ?_)
    obtain ⟨s, hsv, hsl⟩ := OwnQ.frozen (enc := poseC) (nn := 3) (xs := L.reverse) (bb := 24) (hb := by decide) (hl := fun _ => rfl) (l := [_, _, _, _, _, _]) hS hO2 (by rw [List.length_reverse]; omega)
    refine hS.doneX hdd hkx hzc (fun W' a' ha hS => res2 (fn := Tryz.f128) (r1 := .tmp 10) (r2 := .tmp 11) rfl (rv_tmp hS rfl) (rv_tmp hS rfl)) (fun W' hk' hz' hag' => ?_)
    rw [hwy, hsv]
    exact ⟨hI _ _ hIc (fun k hk => hag' k (by omega)), s, rfl, (hsl.kp hk' (fun _ _ h => h)).wide (fun k hk _ => by have := hk.1; omega) (fun _ _ => by decide)⟩
  ·
   try simp only [ty] at hc2
   have hfin := hc2
   refine wpIn_skip ?_
   refine wpIn_seq ?_
   refine wpIn_region_lit ?_
   refine st_v hS rfl rfl (run_load_all (i := 5) Tryz.isAgg111 Tryz.sizeOf111 hS rfl rfl rfl) fun a hS => st_v hS rfl rfl (run_load_all (i := 0) Tryz.isAgg38 Tryz.sizeOf38 hS rfl rfl rfl) fun a hS => st_v hS rfl rfl (run_move hS rfl) fun a hS => st_call (engine_steps X S (ndAt E i).at_ e) Tryz.call125 hS rfl rfl rfl fun v W a hR hB hlt hS => ?_
   obtain ⟨p1, p2, p3, rfl, ⟨c1, c2, c3⟩, hp1, hp2, hp3⟩ := hR
   refine wl_nil ?_
   refine wpIn_block ?_
   have hm0W : m0 < W.heap.size := hS.now.lt
   have hNw : w.heap.size ≤ W.heap.size := by have := hS.below.size; omega
   refine st_rangeN (α := Pose) (σ := RSt) (S := Sq [b6, b5, b3, b2, b1, b0] v W.heap.size) hS (by decide) rfl Tryz.call197 (enc := fun x => .agg (poseC (clV S x)).toArray) (Sx := fun xs => xs = stepsL S e (ndAt E i).at_) (N := 200)
     (steps_it hP hndv c1 c2 c3 (HX _ hS.below) (fun k hk => Sq.low (l := [⟨b6, poseC (ndAt E i).at_, 38⟩, ⟨b5, [v], 45⟩, ⟨b3, [.map (some m0)], 214⟩, ⟨b2, [.func (.func fp) #[] capp.toArray], 101⟩, ⟨b1, poseC p0, 38⟩, ⟨b0, siteC X S, 111⟩]) hS rfl (by omega) (by have := (hF k hk).2; omega)) (Sq.fresh (l := [_, _, _, _, _, _]) hlt rfl hp1 (by have := cell_lt (c1 0 _ rfl); rwa [add_block] at this)) (Sq.fresh (l := [_, _, _, _, _, _]) hlt rfl hp2 (by have := cell_lt (c2 0 _ rfl); rwa [add_block] at this)) (Sq.fresh (l := [_, _, _, _, _, _]) hlt rfl hp3 (by have := cell_lt (c3 0 _ rfl); rwa [add_block] at this))) rfl
     (fun s => s.wc) (fun s => [⟨b6, poseC (ndAt E i).at_, 38⟩, ⟨b5, [s.v], 45⟩, ⟨b3, [.map (some m0)], 214⟩, ⟨b2, [.func (.func fp) #[] capp.toArray], 101⟩, ⟨b1, poseC p0, 38⟩, ⟨b0, siteC X S, 111⟩] ++ rowB s.v s.cs 38) (fun s W => MapAt W m0 (mapE s.E)) (RInv S pass E (ndAt E i) i v W.heap.size T I w) ⟨E, v, cs, wc⟩ rfl rfl ⟨rfl, hO, hkx, hzc, hIc, fun k hk => .inl hk⟩ (fun _ h => h)
     (fun pre s h => h.size.trans hzc.symm) (fun pre s A B h hm hq => hm.tq hq hm0W) (fun pre s h => Sq.all rfl h.own)
     (Uq [b6, b5, b3, b2, b1, b0] b5) (fun pre s W1 h hW => Uq.of hW rfl (List.Mem.tail _ (List.Mem.head _))) (fun pre s W1 k h hW hu => Uq.lt (bs := [b6, b5, b3, b2, b1, b0]) (bq := b5) hW rfl (List.Mem.tail _ (List.Mem.head _)) hu) (fun A B k h hu => Uq.back (hS.lt (List.Mem.tail _ (List.Mem.head _))) A B k h hu)
     (fun b x => [(16, .pointer (some ⟨b, 0, none⟩)), (53, .agg (poseC (clV S x)).toArray)]) (fun x => poseC (clV S x)) ?_ ?_ ?_
   ·
    intro r x W1 a1 hS K hK
    refine wpIn_region_lit ?_
    refine st_alloc_agg Tryz.zeroValue38 hS rfl rfl fun W a b8 hS => st_store (i := 0) Tryz.sizeOf38 hS rfl rfl rfl rfl rfl rfl rfl rfl rfl fun W a hS => wl_nil ?_
    exact hK _ _ b8 (hS.old _ (nthB_in (i := 0) rfl)) (fun t v ht => hS.get t v ht) hS.size hS.defers.1 hS.below (hS.cells (i := 0) rfl _ (Below.refl _ _))
   ·
    intro r pre x s0 W1 a1 b hφ hN hNW1 hbN hS
    obtain ⟨sE, sv, scs, swc⟩ := s0
    dsimp only [List.cons_append, List.nil_append] at hS
    obtain ⟨hext, hO, hkx, hzc, hIc, hown⟩ := hφ
    dsimp only at hext hO hkx hzc hIc hown
    have hzw : swc.heap.size = wc.heap.size := by omega
    have hxv : validP S (clV S x) = true := clV_valid (by omega) x
    have hKW : ∀ W, Below swc.heap.size swc W → KX T w W := fun W hb => hkx.trans (KX.of hb)
    have hIW : ∀ W, Below swc.heap.size swc W → I W := fun W hb => hI _ _ hIc (fun k hk => hb.block k (by omega))
    obtain ⟨en1, ck1, hm1, _⟩ := hS.now.1.1
    have hseen1 : Seen (fun q => validP S q = true) p0 sE := by rw [hext]; exact hseen.exp _ hnd (fun q hq => by obtain ⟨y, _, rfl⟩ := List.mem_map.1 hq; exact clV_valid (by omega) y)
    have hfew1 := hseen1.few htop.2
    have hnd1 : sE[i]? = some (ndAt E i) := by rw [hext]; exact expN_get hnd
    have hdl : ((sE.drop i).map (·.at_)).length ≤ 7371 := by rw [List.length_map, List.length_drop]; omega
    refine wpIn_block ?_
    refine wpIn_seq ?_
    refine wpIn_region_lit ?_
    refine st_v hS rfl rfl (run_load_one (i := 2) Tryz.isAgg214 hS rfl rfl rfl) fun a hS => st_v hS rfl rfl (run_load_ext Tryz.isAgg38 Tryz.sizeOf38 hS rfl rfl (CellsAt.get _ hS.now.2)) fun a hS => st_v hS rfl rfl (run_lookE pkey Tryz.underlying214 Tryz.zeroValue38 hS rfl rfl (hS.now.1.1)) fun a hS => st_v hS rfl rfl (run_move hS rfl) fun a hS => st_v hS rfl rfl (run_extract hS rfl rfl) fun a hS => st_v hS rfl rfl (run_extract hS rfl rfl) fun a hS => st_alloc_agg Tryz.zeroValue38 hS rfl rfl fun W a b9 hS => st_store (i := 0) Tryz.sizeOf38 hS rfl rfl rfl rfl rfl rfl rfl rfl rfl fun W a hS => st_v hS rfl rfl (run_assign hS rfl) fun a hS => wl_nil ?_
    refine wpIn_seq ?_
    refine wpIn_region_lit ?_
    refine st_v hS rfl rfl (run_move hS rfl) fun a hS => st_v hS rfl rfl (run_not hS rfl) fun a hS => st_v hS rfl rfl (run_move hS rfl) fun a hS => ?_
    refine st_split (d := 62) hS rfl (fun hc4 hS => ?_) (fun hc4 hS => ?_)
    ·
     try simp only [ty] at hc4
     refine st_v hS (hS.wanted rfl rfl rfl) rfl (run_load_one (i := 4) Tryz.isAgg101 hS rfl rfl rfl) fun a hS => st_v hS (hS.wanted rfl rfl rfl) rfl (run_load_ext Tryz.isAgg38 Tryz.sizeOf38 hS rfl rfl (CellsAt.get _ hS.now.2)) fun a hS => ?_
     refine st_callvX hS rfl rfl hfp (hpass _ (hKW _ hS.below) (hIW _ hS.below) _ hxv) (hS.wanted rfl rfl rfl) rfl (fun k hk => by have := hT k hk; omega) (fun W2 _ _ => ((MapAt.far (fun hk => by have := hT _ hk; omega)).and (Tn.far (fun k hk => ⟨by have := hT k hk; omega, hTm _ k (hIW _ hS.below) hk⟩))).and (CellsAt.far (fun hk => by have := hT _ hk; have : b < w.heap.size := this; omega))) (fun u W2 swc2 a hR hz2 hk2 hag2 hkW hlt2 hS => ?_)
     obtain ⟨rfl, hI2⟩ := hR
     have hkx2 : KX T w swc2 := hkx.trans hk2
     have hzc2 : swc2.heap.size = w.heap.size := by omega
     have hIc2 : I swc2 := hI _ _ hI2 (fun k hk => hag2 k (by omega))
     refine st_v hS rfl rfl (run_pick_t hS rfl rfl) fun a hS => wl_nil ?_
     have hS := hS.sub (κ' := [(0, _), (1, _), (2, _), (3, _), (4, _), (5, _), (6, _), (9, _), (12, _), (13, _), (14, _), (53, _), (16, _), (18, _), (66, _)]) (Sub.cons rfl (Sub.cons rfl (Sub.cons rfl (Sub.cons rfl (Sub.cons rfl (Sub.cons rfl (Sub.cons rfl (Sub.cons rfl (Sub.cons rfl (Sub.cons rfl (Sub.cons rfl (Sub.cons rfl (Sub.cons rfl (Sub.cons rfl (Sub.cons rfl Sub.nil)))))))))))))))
     refine st_cond hS rfl (fun hc5 => ?_) (fun hc5 => ?_)
     ·
      try simp only [ty] at hc5
      refine wpIn_seq ?_
      refine wpIn_region_lit ?_
      refine st_v hS rfl rfl (run_load_one (i := 3) Tryz.isAgg214 hS rfl rfl rfl) fun a hS => st_v hS rfl rfl (run_load_ext Tryz.isAgg38 Tryz.sizeOf38 hS rfl rfl (CellsAt.get _ hS.now.2)) fun a hS => st_v hS rfl rfl (run_load_all (i := 1) Tryz.isAgg38 Tryz.sizeOf38 hS rfl rfl rfl) fun a hS => ?_
      have hS := hS.less (fun W h => (⟨⟨h.1.2, h.2⟩, h.1.1⟩ : (_ ∧ _) ∧ _))
      refine st_put pkey Tryz.underlying214 hS ((Tn.ind hm1 hm0W).and (CellsAt.ind (show b ≠ m0 by omega))) (by omega) rfl rfl rfl rfl fun W a hS => ?_
      have hS := hS.less (fun W h => (⟨h.1, by rw [← (putM_mapE (p := (ndAt E i).at_) (way := (ndAt E i).way ++ [clV S x]) hc4)]; exact h.2⟩ : _ ∧ MapAt W m0 (mapE (sE ++ [⟨clV S x, (ndAt E i).at_, (ndAt E i).way ++ [clV S x]⟩]))))
      have hS := hS.less (fun W h => (⟨⟨h.2, h.1.1⟩, h.1.2⟩ : (_ ∧ _) ∧ _))
      refine wl_nil ?_
      refine wpIn_region_lit ?_
      refine st_v hS rfl rfl (run_load_one (i := 2) Tryz.isAgg45 hS rfl rfl rfl) fun a hS => st_v hS rfl rfl (run_load_ext Tryz.isAgg38 Tryz.sizeOf38 hS rfl rfl (CellsAt.get _ hS.now.2)) fun a hS => st_buildSlice (pv := [(0, .agg #[.int .i64 _, .int .i64 _, .int .i64 _])]) (fun W => bs45_1_0 _ _ _ W) hS rfl rfl rfl fun W a b10 hS => ?_
      have hz9 := hS.now.1.2.kp.size
      refine st_appQ (l := [_, _, _, _, _, _, _, _]) (ys := [clV S x]) (enc := poseC) (sz := 3) (fun _ => rfl) Tryz.underlying45 (AI.of ai38) (by decide) hS hO rfl rfl rfl rfl (src_own (sz := 3) Tryz.underlying45 hS (i := 0) rfl rfl rfl) rfl (by omega) fun W a v2 cs2 hO2 ho2 hz2 hS => ?_
      refine st_store (vs := [v2]) (i := 3) Tryz.sizeOf45 hS rfl rfl rfl rfl (OwnQ.cells1 hO2) rfl rfl (allc (OwnQ.one1 hO2) rfl) rfl fun W a hS => wl_nil ?_
      have hE1 : addN pass (ndAt E i) sE (clV S x) = sE ++ [⟨clV S x, (ndAt E i).at_, (ndAt E i).way ++ [clV S x]⟩] := by simp [addN, hc4, hc5]
      have hi2 : i ≤ sE.length := by have := (List.getElem?_eq_some_iff.1 hnd1).1; omega
      exact ⟨rfl, ⟨sE ++ [⟨clV S x, (ndAt E i).at_, (ndAt E i).way ++ [clV S x]⟩], v2, cs2, swc2⟩, _, [_, _], ⟨by dsimp only; rw [List.map_append, List.map_singleton, expN_snoc, ← hext]; exact hE1.symm, by dsimp only; rw [List.drop_append_of_le_length hi2, List.map_append]; exact hO2, hkx2, hzc2, hIc2, fun k hk => by
        rcases ho2 k hk with h | h
        · exact hown k h
        · exact .inr (by omega)⟩, hS.less (fun _ h => h.1)⟩
     ·
      try simp only [ty] at hc5
      refine wpIn_skip ?_
      have hE1 : addN pass (ndAt E i) sE (clV S x) = sE := by simp [addN, hc4, hc5]
      exact ⟨rfl, ⟨sE, sv, scs, swc2⟩, _, [_], ⟨by dsimp only; rw [List.map_append, List.map_singleton, expN_snoc, ← hext]; exact hE1.symm, hO, hkx2, hzc2, hIc2, hown⟩, hS.less (fun _ h => h.1)⟩
    ·
     try simp only [ty] at hc4
     refine st_skip hS (hS.unwanted rfl rfl rfl rfl) rfl fun a hS => st_skip hS (hS.unwanted rfl rfl rfl rfl) rfl fun a hS => st_skip hS (hS.unwanted rfl rfl rfl rfl) rfl fun a hS => st_v hS rfl rfl (run_pick_f hS rfl rfl) fun a hS => wl_nil ?_
     have hS := hS.sub (κ' := [(0, _), (1, _), (2, _), (3, _), (4, _), (5, _), (6, _), (9, _), (12, _), (13, _), (14, _), (53, _), (16, _), (18, _), (66, _)]) (Sub.cons rfl (Sub.cons rfl (Sub.cons rfl (Sub.cons rfl (Sub.cons rfl (Sub.cons rfl (Sub.cons rfl (Sub.cons rfl (Sub.cons rfl (Sub.cons rfl (Sub.cons rfl (Sub.cons rfl (Sub.cons rfl (Sub.cons rfl (Sub.cons rfl Sub.nil)))))))))))))))
     refine st_cond_f hS rfl ?_
     refine wpIn_skip ?_
     have hE1 : addN pass (ndAt E i) sE (clV S x) = sE := by simp [addN, hc4]
     exact ⟨rfl, ⟨sE, sv, scs, swc⟩, _, [_], ⟨by dsimp only; rw [List.map_append, List.map_singleton, expN_snoc, ← hext]; exact hE1.symm, hO, hkx, hzc, hIc, hown⟩, hS.less (fun _ h => h.1)⟩
   ·
    intro D xs s0 W a hx hφ hDn hNW hS
    subst hx
    dsimp only [List.cons_append, List.nil_append] at hS
    have hall : ∀ q ∈ stepsL S e (ndAt E i).at_, validP S q = true := fun q hq => steps_valid hndv hq
    have hext : s0.E = expN pass (ndAt E i) E (stepsL S e (ndAt E i).at_) := by rw [hφ.ext, clV_map hall]
    have hseen2 : Seen (fun q => validP S q = true) p0 s0.E := by rw [hext]; exact hseen.exp _ hnd hall
    have hle2 : i + 1 ≤ s0.E.length := by rw [hext]; have := expN_len (pass := pass) (nd := ndAt E i) (qs := stepsL S e (ndAt E i).at_) (E := E); omega
    have hbfs2 : bfs (stepsL S e) fin pass (7372 - (i + 1)) s0.E (i + 1) = wayP (stepsL S e) fin pass p0 := by rw [hext, ← bfs_step hnd hfin, ← hbfs]; congr 1; omega
    have hO2 := hφ.row
    have hne : (s0.E.drop i).map (·.at_) ≠ [] := by intro e; have := congrArg List.length e; simp at this; omega
    refine wpIn_seq ?_
    refine wpIn_seq ?_
    refine wpIn_region_lit ?_
    refine st_v hS rfl rfl (run_load_one (i := 1) Tryz.isAgg45 hS rfl rfl rfl) fun a hS => wl_nil ?_
    refine wpIn_region_lit ?_
    refine st_alloc_one Tryz.zeroValue45 rfl hS rfl rfl fun W a b11 hS => st_store (vs := [s0.v]) (i := 0) Tryz.sizeOf45 hS rfl rfl rfl rfl (OwnQ.cells1 hO2) rfl rfl (allc (OwnQ.one1 hO2) rfl) rfl fun W a hS => wl_nil ?_
    refine wpIn_region_lit ?_
    refine st_v hS rfl rfl (run_load_one (i := 0) Tryz.isAgg45 hS rfl rfl rfl) fun a hS => ?_
    obtain ⟨v3, hr3, hO3, ho3⟩ := run_tailQ (P := Tryz.prog) (d := 29) (ty := _) (pos := _) (af := _) (g := none) (k := 1) (x := .tmp 28) (lo := .const (.int .i64 1)) (enc := poseC) (sz := 3) (fun _ => rfl) Tryz.underlying45 Tryz.sizeOf38 hS hO2 rfl rfl (by simp only [List.length_map, List.length_drop]; omega) (hne)
    refine st_v hS rfl rfl (hr3) fun a hS => st_store (vs := [v3]) (i := 0) Tryz.sizeOf45 hS rfl rfl rfl rfl (OwnQ.cells1 hO3) rfl rfl (allc (OwnQ.one1 hO3) rfl) rfl fun W a hS => wl_nil ?_
    refine ⟨⟨s0.E, i + 1, b11, v3, s0.cs, s0.wc, D :: dd⟩, ⟨⟨hseen2, hle2, hbfs2, ?_, hφ.kx, hφ.size, hφ.inv, List.nodup_cons.2 ⟨hDn, hdd⟩⟩, by dsimp only; omega⟩, ?_⟩
    · have h1 := hO3
      rw [List.map_drop, List.drop_drop] at h1
      dsimp only
      rw [List.map_drop]; exact h1
    · dsimp only [List.cons_append, List.nil_append]
      rw [rowB_own (show v3.ownBlock = s0.v.ownBlock from ho3)]
      exact (hS.sub (Sub.cons rfl (Sub.cons rfl (Sub.cons rfl (Sub.cons rfl (Sub.cons rfl (Sub.cons rfl (Sub.cons rfl (Sub.cons rfl (Sub.cons rfl (Sub.cons rfl Sub.nil))))))))))).drop (List.Sublist.cons_cons _ (List.Sublist.cons _ (List.Sublist.cons _ (List.Sublist.refl _))))
 ·
  try simp only [ty] at hc1
  have hie : E.length ≤ i := by have h := hc1; simp only [List.length_map, List.length_drop] at h; omega
  have hwy : wayP (stepsL S e) fin pass p0 = none := by rw [← hbfs, bfs_none hie]
  refine wpIn_exit ?_
  refine wpIn_seq ?_
  refine wpIn_region_lit ?_
  refine st_v hS rfl rfl (run_assign hS rfl) fun a hS => st_v hS rfl rfl (run_assign hS rfl) fun a hS => wl_nil ?_
  refine wpIn_ret ?_
  repeat (first | refine q_ret ?_ | refine q_block_ret ?_)
  refine hS.doneX hdd hkx hzc (fun W' a' ha hS => res2 (fn := Tryz.f128) (r1 := .tmp 10) (r2 := .tmp 11) rfl (rv_tmp hS rfl) (rv_tmp hS rfl)) (fun W' hk' hz' hag' => ?_)
  rw [hwy]
  exact ⟨hI _ _ hIc (fun k hk => hag' k (by omega)), ⟨none, 0⟩, rfl, sl_nil _ _ _⟩
end Go.Proofs.YtdnodlgebpnfoaaGreat
namespace Go.Proofs.YtdnodlgebpnfoaaGreat
open Go Go.RowKit Go.Shelf Sw
set_option maxHeartbeats 2000000 in
set_option maxRecDepth 100000 in
theorem covers_end {F : Nat → Prop} {X : CV} {S : Site} {p1 p2 : Addr} {m : Nat} {K : List (Pose × Int)} {p : Pose} {w : World} (c1 : CellsAt w p1 (siteC X S)) (c2 : w.cell? p2 = some (.map (some m))) (hs : SiteR F w X S) (hm : MapAt w m (kM K)) (hP : SiteP S) (hv : validP S p = true) :
    Ret Tryz.prog 201 [.agg (poseC p).toArray, .pointer (some p1), .pointer (some p2)] w (fun v _ => v = .bool (coverEnd S p || decide (lkI K p = 2))) := by
 refine ret_start (n := 19) Tryz.func201 rfl rfl rfl (fun a hS => ?_)
 have hvp := validP_iff.1 hv
 have HC1 : ∀ W, Below w.heap.size w W → CellsAt W p1 (siteC X S) := fun W hb => c1.at_ hb
 have HC2 : ∀ W, Below w.heap.size w W → W.cell? p2 = some (.map (some m)) := fun W hb => cell_at c2 hb
 have HX : ∀ W, Below w.heap.size w W → SiteR F W X S := fun W hb => hs.at_ hb
 have HM : ∀ W, Below w.heap.size w W → MapAt W m (kM K) := fun W hb => hm.later hb
 refine wpIn_seq ?_
 refine wpIn_region_lit ?_
 refine st_box_agg hS rfl rfl rfl fun W a b0 hS => st_v hS rfl rfl (run_assign hS rfl) fun a hS => wl_nil ?_
 refine wpIn_seq ?_
 refine wpIn_region_lit ?_
 refine st_v hS rfl rfl (run_load_ext Tryz.isAgg111 Tryz.sizeOf111 hS rfl rfl (HC1 _ hS.below)) fun a hS => st_v hS rfl rfl (run_load_all (i := 0) Tryz.isAgg38 Tryz.sizeOf38 hS rfl rfl rfl) fun a hS => st_call (engine_down X S p (HX _ hS.below) (by assumption)) Tryz.call134 hS rfl rfl rfl fun v W a hR hB hlt hS => ?_
 subst hR
 refine st_v hS rfl rfl (run_move hS rfl) fun a hS => ?_
 refine st_split (d := 8) hS rfl (fun hc1 hS => ?_) (fun hc1 hS => ?_)
 ·
  try simp only [ty] at hc1
  refine st_skip hS (hS.unwanted rfl rfl rfl rfl) rfl fun a hS => st_skip hS (hS.unwanted rfl rfl rfl rfl) rfl fun a hS => st_skip hS (hS.unwanted rfl rfl rfl rfl) rfl fun a hS => st_v hS rfl rfl (run_pick_t hS rfl rfl) fun a hS => st_v hS rfl rfl (run_move hS rfl) fun a hS => st_skip hS (hS.unwanted rfl rfl rfl rfl) rfl fun a hS => st_skip hS (hS.unwanted rfl rfl rfl rfl) rfl fun a hS => st_skip hS (hS.unwanted rfl rfl rfl rfl) rfl fun a hS => st_skip hS (hS.unwanted rfl rfl rfl rfl) rfl fun a hS => st_v hS rfl rfl (run_pick_t hS rfl rfl) fun a hS => st_v hS rfl rfl (run_assign hS rfl) fun a hS => wl_nil ?_
  refine wpIn_ret ?_
  repeat (first | refine q_ret ?_ | refine q_block_ret ?_)
  refine hS.done (res1 (fn := Tryz.f201) (r1 := .tmp 4) rfl (rv_tmp hS rfl)) ?_
  refine vb ?_; simp [coverEnd, hc1] <;> rfl
 ·
  try simp only [ty] at hc1
  refine st_v hS (hS.wanted rfl rfl rfl) rfl (run_load_ext Tryz.isAgg111 Tryz.sizeOf111 hS rfl rfl (HC1 _ hS.below)) fun a hS => st_v hS (hS.wanted rfl rfl rfl) rfl (run_load_all (i := 0) Tryz.isAgg38 Tryz.sizeOf38 hS rfl rfl rfl) fun a hS => st_call (engine_away X S p (HX _ hS.below) (by assumption) (by omega)) Tryz.call129 hS (hS.wanted rfl rfl rfl) rfl rfl fun v W a hR hB hlt hS => ?_
  subst hR
  refine st_v hS rfl rfl (run_pick_f hS rfl rfl) fun a hS => st_v hS rfl rfl (run_move hS rfl) fun a hS => ?_
  refine st_split (d := 13) hS rfl (fun hc2 hS => ?_) (fun hc2 hS => ?_)
  ·
   try simp only [ty] at hc2
   refine st_skip hS (hS.unwanted rfl rfl rfl rfl) rfl fun a hS => st_skip hS (hS.unwanted rfl rfl rfl rfl) rfl fun a hS => st_skip hS (hS.unwanted rfl rfl rfl rfl) rfl fun a hS => st_skip hS (hS.unwanted rfl rfl rfl rfl) rfl fun a hS => st_v hS rfl rfl (run_pick_t hS rfl rfl) fun a hS => st_v hS rfl rfl (run_assign hS rfl) fun a hS => wl_nil ?_
   refine wpIn_ret ?_
   repeat (first | refine q_ret ?_ | refine q_block_ret ?_)
   refine hS.done (res1 (fn := Tryz.f201) (r1 := .tmp 4) rfl (rv_tmp hS rfl)) ?_
   refine vb ?_; simp [coverEnd, hc1, hc2] <;> rfl
  ·
   try simp only [ty] at hc2
   refine st_v hS (hS.wanted rfl rfl rfl) rfl (run_load_cell Tryz.isAgg217 hS rfl (HC2 _ hS.below)) fun a hS => st_v hS (hS.wanted rfl rfl rfl) rfl (run_load_all (i := 0) Tryz.isAgg38 Tryz.sizeOf38 hS rfl rfl rfl) fun a hS => st_v hS (hS.wanted rfl rfl rfl) rfl (run_lookI pkey Tryz.underlying217 Tryz.zeroValue3 hS rfl rfl (HM _ hS.below)) fun a hS => st_v hS (hS.wanted rfl rfl rfl) rfl (run_bin hS rfl rfl rfl) fun a hS => st_v hS rfl rfl (run_pick_f hS rfl rfl) fun a hS => st_v hS rfl rfl (run_assign hS rfl) fun a hS => wl_nil ?_
   refine wpIn_ret ?_
   repeat (first | refine q_ret ?_ | refine q_block_ret ?_)
   refine hS.done (res1 (fn := Tryz.f201) (r1 := .tmp 4) rfl (rv_tmp hS rfl)) ?_
   refine vb ?_; simp [coverEnd, hc1, hc2] <;> rfl
set_option maxHeartbeats 2000000 in
set_option maxRecDepth 100000 in
theorem covers_is {F : Nat → Prop} {X : CV} {S : Site} {p1 p2 : Addr} {m : Nat} {K : List (Pose × Int)} {p : Pose} {w : World} (c1 : CellsAt w p1 (siteC X S)) (c2 : w.cell? p2 = some (.map (some m))) (hs : SiteR F w X S) (hm : MapAt w m (kM K)) (hP : SiteP S) (hv : validP S p = true) (hk : Snd S K) :
    RetX Tryz.prog 200 [.agg (poseC p).toArray, .pointer (some p2), .pointer (some p1)] (fun k => k = m) w (fun v W' => v = .bool (Cov S p) ∧ ∃ K', MapAt W' m (kM K') ∧ Snd S K') := by
 refine ret_startX (n := 27) Tryz.func200 rfl rfl rfl (fun a hS => ?_)
 have htop := hP.cr.top
 have HC1 : ∀ W, Below w.heap.size w W → CellsAt W p1 (siteC X S) := fun W hb => c1.at_ hb
 have HC2 : ∀ W, Below w.heap.size w W → W.cell? p2 = some (.map (some m)) := fun W hb => cell_at c2 hb
 have HX : ∀ W, Below w.heap.size w W → SiteR F W X S := fun W hb => hs.at_ hb
 have HM : ∀ W, Below w.heap.size w W → MapAt W m (kM K) := fun W hb => hm.later hb
 refine wpIn_seq ?_
 refine wpIn_region_lit ?_
 refine st_box_agg hS rfl rfl rfl fun W a b0 hS => st_v hS rfl rfl (run_assign hS rfl) fun a hS => wl_nil ?_
 refine wpIn_seq ?_
 refine wpIn_seq ?_
 refine wpIn_region_lit ?_
 refine st_v hS rfl rfl (run_load_cell Tryz.isAgg217 hS rfl (HC2 _ hS.below)) fun a hS => st_v hS rfl rfl (run_load_all (i := 0) Tryz.isAgg38 Tryz.sizeOf38 hS rfl rfl rfl) fun a hS => st_v hS rfl rfl (run_lookI pkey Tryz.underlying217 Tryz.zeroValue3 hS rfl rfl (HM _ hS.below)) fun a hS => st_v hS rfl rfl (run_bin hS rfl rfl rfl) fun a hS => wl_nil ?_
 refine st_cond hS rfl (fun hc1 => ?_) (fun hc1 => ?_)
 ·
  try simp only [ty] at hc1
  refine wpIn_seq ?_
  refine wpIn_region_lit ?_
  refine st_v hS rfl rfl (run_load_cell Tryz.isAgg217 hS rfl (HC2 _ hS.below)) fun a hS => st_v hS rfl rfl (run_load_all (i := 0) Tryz.isAgg38 Tryz.sizeOf38 hS rfl rfl rfl) fun a hS => ?_
  refine st_putX pkey Tryz.underlying217 hS (HM _ hS.below) (fun _ => Far.true) (show m < w.heap.size from hm.lt) rfl rfl rfl rfl (fun W w1 a hm1 hz1 hk1 hS => ?_)
  rw [putM_kM] at hm1
  have hkp1 := hk1.kp (fun k hk => by obtain ⟨en, c, h, _⟩ := hm; exact ⟨en, c, by rw [hk]; exact h⟩)
  have c11 := hkp1.cellsAt c1 (fun h => h)
  have c21 := hkp1.cell c2 (fun h => h)
  have hs1 := hs.kp hkp1 (fun _ _ h => h)
  have HC1 : ∀ W, Below w1.heap.size w1 W → CellsAt W p1 (siteC X S) := fun W hb => c11.at_ hb
  have HC2 : ∀ W, Below w1.heap.size w1 W → W.cell? p2 = some (.map (some m)) := fun W hb => cell_at c21 hb
  have HX : ∀ W, Below w1.heap.size w1 W → SiteR F W X S := fun W hb => hs1.at_ hb
  have HM : ∀ W, Below w1.heap.size w1 W → MapAt W m (kM (putI K p 1)) := fun W hb => hm1.later hb
  refine wl_nil ?_
  refine wpIn_seq ?_
  refine wpIn_region_lit ?_
  refine st_v hS rfl rfl (run_load_ext Tryz.isAgg111 Tryz.sizeOf111 hS rfl rfl (HC1 _ hS.below)) fun a hS => st_v hS rfl rfl (run_load_all (i := 0) Tryz.isAgg38 Tryz.sizeOf38 hS rfl rfl rfl) fun a hS => st_v hS rfl rfl (run_makeFunc hS rfl rfl) fun a hS => st_call ((engine_way (T := noX) (I := fun _ => True) (e := true) (fin := fun q => coverEnd S q || decide (lkI (putI K p 1) q = 2)) (pass := anyP) (fie := []) (cape := [.pointer (some p1), .pointer (some p2)]) (capp := []) (HX _ hS.below) hP hv (fun _ _ _ _ => trivial) trivial (fun k h => h.elim) (fun _ _ _ h => h.elim) (fun _ _ h => h) Tryz.call201 (fun W2 hk2 _ q hq => covers_end ((HC1 _ hS.below).at_ hk2.below) (cell_at (HC2 _ hS.below) hk2.below) ((HX _ hS.below).at_ hk2.below) ((HM _ hS.below).later hk2.below) hP hq) Tryz.call153 (fun W2 _ _ q _ => Ret.toX ((engine_anywhere q).mono fun v W' _ h => ⟨h, trivial⟩))).toRet) Tryz.call128 hS rfl rfl rfl fun v W a hR hB hlt hS => ?_
  obtain ⟨_, s3, rfl, _⟩ := hR
  have hcv := cov_memo (known := fun q => decide (lkI (putI K p 1) q = 2)) hv htop.2 (fun q hq h => by
    rw [decide_eq_true_eq, lkI_put] at h
    by_cases e : q = p
    · rw [if_pos e] at h; cases h
    · rw [if_neg e] at h; exact (hk q hq).1 h)
  rw [hcv] at hS
  refine st_v hS rfl rfl (run_move hS rfl) fun a hS => st_v hS rfl rfl (run_extract hS rfl rfl) fun a hS => st_v hS rfl rfl (run_extract hS rfl rfl) fun a hS => st_v hS rfl rfl (run_assign hS rfl) fun a hS => st_v hS rfl rfl (run_assign hS rfl) fun a hS => wl_nil ?_
  refine wpIn_seq ?_
  refine wpIn_region_lit ?_
  refine st_v hS rfl rfl (run_move hS rfl) fun a hS => wl_nil ?_
  refine st_cond hS rfl (fun hc2 => ?_) (fun hc2 => ?_)
  ·
   try simp only [ty] at hc2
   refine wpIn_region_lit ?_
   refine st_v hS rfl rfl (run_load_cell Tryz.isAgg217 hS rfl (HC2 _ hS.below)) fun a hS => st_v hS rfl rfl (run_load_all (i := 0) Tryz.isAgg38 Tryz.sizeOf38 hS rfl rfl rfl) fun a hS => ?_
   refine st_putX pkey Tryz.underlying217 hS (HM _ hS.below) (fun _ => Far.true) (show m < w1.heap.size from hm1.lt) rfl rfl rfl rfl (fun W w2 a hm2 hz2 hk2 hS => ?_)
   rw [putM_kM] at hm2
   have hkp2 := hk2.kp (fun k hk => by obtain ⟨en, c, h, _⟩ := hm1; exact ⟨en, c, by rw [hk]; exact h⟩)
   have c12 := hkp2.cellsAt c11 (fun h => h)
   have c22 := hkp2.cell c21 (fun h => h)
   have hs2 := hs1.kp hkp2 (fun _ _ h => h)
   have HC1 : ∀ W, Below w2.heap.size w2 W → CellsAt W p1 (siteC X S) := fun W hb => c12.at_ hb
   have HC2 : ∀ W, Below w2.heap.size w2 W → W.cell? p2 = some (.map (some m)) := fun W hb => cell_at c22 hb
   have HX : ∀ W, Below w2.heap.size w2 W → SiteR F W X S := fun W hb => hs2.at_ hb
   have HM : ∀ W, Below w2.heap.size w2 W → MapAt W m (kM (putI (putI K p 1) p 2)) := fun W hb => hm2.later hb
   refine wl_nil ?_
   refine wpIn_seq ?_
   refine wpIn_region_lit ?_
   refine st_v hS rfl rfl (run_load_cell Tryz.isAgg217 hS rfl (HC2 _ hS.below)) fun a hS => st_v hS rfl rfl (run_load_all (i := 0) Tryz.isAgg38 Tryz.sizeOf38 hS rfl rfl rfl) fun a hS => st_v hS rfl rfl (run_lookI pkey Tryz.underlying217 Tryz.zeroValue3 hS rfl rfl (HM _ hS.below)) fun a hS => st_v hS rfl rfl (run_bin hS rfl rfl rfl) fun a hS => st_v hS rfl rfl (run_assign hS rfl) fun a hS => wl_nil ?_
   refine wpIn_ret ?_
   repeat (first | refine q_ret ?_ | refine q_block_ret ?_)
   have hkxE : KX (fun k => k = m) w w2 := hk1.trans hk2
   have hzE : w2.heap.size = w.heap.size := by omega
   refine hS.doneX List.nodup_nil hkxE hzE (fun W' a' ha hS => res1 (fn := Tryz.f200) (r1 := .tmp 4) rfl (rv_tmp hS rfl)) (fun W' hk' hz' hag' => ?_)
   have e1 : lkI (putI (putI K p 1) p 2) p = 2 := by rw [lkI_put, if_pos rfl]
   exact ⟨by rw [e1, hc2]; rfl, _, hm2.agree (hm2.lt) (fun k hk => hag' k hk), (fun q hq => by
     have := (hk.put (p := p) (n := 2) (.inl ⟨rfl, hc2⟩)) q hq
     rw [lkI_put] at this; rw [lkI_put, lkI_put]
     by_cases e : q = p
     · rw [if_pos e] at this ⊢; exact this
     · rw [if_neg e] at this ⊢; rw [if_neg e]; exact this)⟩
  ·
   try simp only [ty] at hc2
   refine wpIn_skip ?_
   refine wpIn_seq ?_
   refine wpIn_region_lit ?_
   refine st_v hS rfl rfl (run_load_cell Tryz.isAgg217 hS rfl (HC2 _ hS.below)) fun a hS => st_v hS rfl rfl (run_load_all (i := 0) Tryz.isAgg38 Tryz.sizeOf38 hS rfl rfl rfl) fun a hS => st_v hS rfl rfl (run_lookI pkey Tryz.underlying217 Tryz.zeroValue3 hS rfl rfl (HM _ hS.below)) fun a hS => st_v hS rfl rfl (run_bin hS rfl rfl rfl) fun a hS => st_v hS rfl rfl (run_assign hS rfl) fun a hS => wl_nil ?_
   refine wpIn_ret ?_
   repeat (first | refine q_ret ?_ | refine q_block_ret ?_)
   have hkxE := hk1
   have hzE := hz1
   refine hS.doneX List.nodup_nil hkxE hzE (fun W' a' ha hS => res1 (fn := Tryz.f200) (r1 := .tmp 4) rfl (rv_tmp hS rfl)) (fun W' hk' hz' hag' => ?_)
   have e1 : lkI (putI K p 1) p = 1 := by rw [lkI_put, if_pos rfl]
   exact ⟨by rw [e1, hc2]; rfl, _, hm1.agree (hm1.lt) (fun k hk => hag' k hk), hk.put (.inr ⟨rfl, hc2⟩)⟩
 ·
  try simp only [ty] at hc1
  refine wpIn_skip ?_
  refine wpIn_seq ?_
  refine wpIn_region_lit ?_
  refine st_v hS rfl rfl (run_load_cell Tryz.isAgg217 hS rfl (HC2 _ hS.below)) fun a hS => st_v hS rfl rfl (run_load_all (i := 0) Tryz.isAgg38 Tryz.sizeOf38 hS rfl rfl rfl) fun a hS => st_v hS rfl rfl (run_lookI pkey Tryz.underlying217 Tryz.zeroValue3 hS rfl rfl (HM _ hS.below)) fun a hS => st_v hS rfl rfl (run_bin hS rfl rfl rfl) fun a hS => st_v hS rfl rfl (run_assign hS rfl) fun a hS => wl_nil ?_
  refine wpIn_ret ?_
  repeat (first | refine q_ret ?_ | refine q_block_ret ?_)
  have hkxE := KX.refl (fun k => k = m) w
  have hzE : w.heap.size = w.heap.size := rfl
  refine hS.doneX List.nodup_nil hkxE hzE (fun W' a' ha hS => res1 (fn := Tryz.f200) (r1 := .tmp 4) rfl (rv_tmp hS rfl)) (fun W' hk' hz' hag' => ?_)
  refine ⟨?_, _, hm.agree (hm.lt) (fun k hk => hag' k hk), hk⟩
  have h3 := hk p hv
  rcases h3.2.2 with e | e | e
  · exact absurd e hc1
  · rw [e, h3.2.1 e]; rfl
  · rw [e, h3.1 e]; rfl
set_option maxHeartbeats 2000000 in
set_option maxRecDepth 100000 in
theorem engine_covers (X : CV) (S : Site) {w : World} : Ret Tryz.prog 130 [.agg (siteC X S).toArray] w (fun v W' => ∃ (p1 p2 : Addr) (m : Nat), v = .func (.func 200) #[] #[.pointer (some p2), .pointer (some p1)] ∧
    (CellsAt W' p1 (siteC X S) ∧ W'.cell? p2 = some (.map (some m)) ∧ MapAt W' m (kM [])) ∧ w.heap.size ≤ p1.block ∧ w.heap.size ≤ p2.block ∧ w.heap.size ≤ m) := by
 refine ret_start (n := 6) Tryz.func130 rfl rfl rfl (fun a hS => ?_)
 refine wpIn_seq ?_
 refine wpIn_region_lit ?_
 refine st_box_agg hS rfl rfl rfl fun W a b0 hS => st_v hS rfl rfl (run_assign hS rfl) fun a hS => wl_nil ?_
 refine wpIn_seq ?_
 refine wpIn_region_lit ?_
 refine st_makeMap hS rfl rfl fun W a m0 hm0 hS => ?_
 refine st_alloc_one Tryz.zeroValue217 rfl hS rfl rfl fun W a b1 hS => st_store (i := 0) Tryz.sizeOf217 hS rfl rfl rfl rfl rfl rfl rfl rfl rfl fun W a hS => wl_nil ?_
 refine wpIn_seq ?_
 refine wpIn_region_lit ?_
 refine st_v hS rfl rfl (run_makeFunc hS rfl rfl) fun a hS => st_v hS rfl rfl (run_assign hS rfl) fun a hS => wl_nil ?_
 refine wpIn_ret ?_
 repeat (first | refine q_ret ?_ | refine q_block_ret ?_)
 refine hS.done (res1 (fn := Tryz.f130) (r1 := .tmp 2) rfl (rv_tmp hS rfl)) ?_
 exact ⟨⟨b0, 0, none⟩, ⟨b1, 0, none⟩, m0, rfl, ⟨hS.cells (i := 1) rfl _ (Below.refl _ _), hS.cell0 (i := 0) rfl _ (Below.refl _ _), hS.now.2⟩, hS.old _ (nthB_in (i := 1) rfl), hS.old _ (nthB_in (i := 0) rfl), hm0⟩
end Go.Proofs.YtdnodlgebpnfoaaGreat
