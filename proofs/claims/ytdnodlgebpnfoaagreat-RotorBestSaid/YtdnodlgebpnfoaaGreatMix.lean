/- The engine's regions that draw their order and make or write: each operation that yields is shown once, by what it looks at; the last ones, that wait for all the others, are walked in their order. -/
import Derived.Test.YtdnodlgebpnfoaaGreatMem
namespace Go.Proofs.YtdnodlgebpnfoaaGreat
open Go Go.RowKit Go.Shelf

inductive Role
  | q (v : Value)
  | al (f : Nat → Value) (cs : List Value) (T : TypeId)
  | l (R : Value → World → Prop)
def Role.stable : Role → Prop
  | .l R => ∀ u W W', R u W → Later W W' → R u W'
  | _ => True
def Role.made : Role → World → Value → World → Prop
  | .q v, _, u, _ => u = v
  | .al f cs T, W, u, W1 => ∃ b, u = f b ∧ W.heap.size ≤ b ∧ W1.heap[b]? = some (.cells cs.toArray T (0, 0))
  | .l R, _, u, W1 => R u W1
def Role.holds : Role → Nat → Value → World → Prop
  | .q v, _, u, _ => u = v
  | .al f cs T, b, u, W => u = f b ∧ W.heap[b]? = some (.cells cs.toArray T (0, 0))
  | .l R, _, u, W => R u W
def Role.isAl : Role → Bool
  | .al .. => true
  | _ => false
theorem Later.refl (W : World) : Later W W := Below.refl _ _
theorem Later.trans {W W1 W2 : World} (h : Later W W1) (h' : Later W1 W2) : Later W W2 := Below.trans h (h'.mono h.size)
theorem Role.holds_later {ro : Role} (hs : ro.stable) {b : Nat} {u : Value} {W W' : World} (h : ro.holds b u W) (hl : Later W W') : ro.holds b u W' := by
  cases ro with
  | q v => exact h
  | al f cs T =>
    refine ⟨h.1, ?_⟩
    have hb := (Array.getElem?_eq_some_iff.1 h.2).1
    rw [hl.block b hb]; exact h.2
  | l R => exact hs _ _ _ h hl

/-- An operation yields a value, with all that was there left. -/
def Yl (P : Program) (o : Oper) (a : Act) (W : World) (T : Value → World → Prop) : Prop :=
  (∃ u W1, (execOp a.eval o).run P W = .ok (.value u) W1 ∧ T u W1) ∨
  (∃ f args, (execOp a.eval o).run P W = .ok (.enter f args) W ∧ Calls P f args W fun e W1 => ∃ u, e = .returned u ∧ T u W1)
theorem Yl.mono {P : Program} {o : Oper} {a : Act} {W : World} {T T' : Value → World → Prop} (h : Yl P o a W T) (ht : ∀ u W1, T u W1 → T' u W1) : Yl P o a W T' := by
  rcases h with ⟨u, W1, h1, h2⟩ | ⟨f, args, h1, h2⟩
  · exact .inl ⟨u, W1, h1, ht _ _ h2⟩
  · exact .inr ⟨f, args, h1, h2.mono fun e W1 ⟨u, he, hu⟩ => ⟨u, he, ht _ _ hu⟩⟩
def notDefer (o : Oper) : Bool := match o.op with | .defer _ => false | _ => true
theorem notDefer_spec {o : Oper} (h : notDefer o = true) (c : Call) : o.op ≠ .defer c := by
  intro e; simp [notDefer, e] at h
theorem Yl.wpIn {P : Program} {r : Option Nat} {m : Nat} {o : Oper} {a : Act} {W : World} {T : Value → World → Prop} {K : Act → World → Prop} {Q : Exit → Act → World → Prop} (hd : notDefer o = true) (h : Yl P o a W T) (hk : ∀ u W1, T u W1 → K (a.put o.dst u) W1) : o.wpIn (Fw r) m P a W K Q := by
  refine ⟨fun _ _ => trivial, ?_⟩
  rw [Oper.semAt_eq _ _ _ (notDefer_spec hd)]
  rcases h with ⟨u, W1, h1, h2⟩ | ⟨f, args, h1, h2⟩
  · rw [h1]; exact hk _ _ h2
  · rw [h1]
    refine ⟨fun h => by simp [Fw] at h, ?_⟩
    have h3 : CallsIn Fence.wide (m - 1) P f args W (fun e W' => match e with
      | .returned v => K (a.put o.dst v) W'
      | .panicked chain => Q (.panic chain) a W'
      | .outgrown => LetsOut Q) := callsIn_wide.2 (h2.mono fun e W' he => by
        obtain ⟨v, rfl, h⟩ := he
        exact hk _ _ h)
    cases r with
    | none => exact CallsIn.mono h3 (fun e W' he => by cases e <;> exact he)
    | some i => exact CallsIn.mono (h3.inRound i) (fun e W' he => by cases e <;> exact he)

def inL : List Nat → Nat → Bool
  | [], _ => false
  | x :: xs, t => Nat.beq x t || inL xs t
theorem inL_iff {xs : List Nat} {t : Nat} : inL xs t = true ↔ t ∈ xs := by
  induction xs with
  | nil => simp [inL]
  | cons x xs ih =>
    simp only [inL, Bool.or_eq_true, List.mem_cons, ih]
    constructor
    · rintro (h | h)
      · exact .inl (Nat.eq_of_beq_eq_true h).symm
      · exact .inr h
    · rintro (rfl | h)
      · exact .inl (Nat.beq_refl _)
      · exact .inr h
def tl (o : Oper) : List Nat := o.op.operands.toList.filterMap fun | .tmp t => some t | _ => none
def kq (ts : List Nat) : List (Nat × Role) → KV
  | [] => []
  | (t, .q v) :: ρ => bif inL ts t then (t, v) :: kq ts ρ else kq ts ρ
  | _ :: ρ => kq ts ρ
def kall (bs : Nat → Nat) (us : Nat → Value) : Nat → List (Nat × Role) → KV
  | _, [] => []
  | i, (t, .q v) :: ρ => (t, v) :: kall bs us (i + 1) ρ
  | i, (t, .al f _ _) :: ρ => (t, f (bs i)) :: kall bs us (i + 1) ρ
  | i, (t, .l _) :: ρ => (t, us i) :: kall bs us (i + 1) ρ
def kval (bs : Nat → Nat) (us : Nat → Value) (i : Nat) : Role → Value
  | .q v => v
  | .al f _ _ => f (bs i)
  | .l _ => us i
def ball (bs : Nat → Nat) : Nat → List (Nat × Role) → List Blk
  | _, [] => []
  | i, (_, .al _ cs T) :: ρ => ⟨bs i, cs, T⟩ :: ball bs (i + 1) ρ
  | i, _ :: ρ => ball bs (i + 1) ρ
def lall (us : Nat → Value) (W : World) : Nat → List (Nat × Role) → Prop
  | _, [] => True
  | i, (_, .l R) :: ρ => R (us i) W ∧ lall us W (i + 1) ρ
  | i, _ :: ρ => lall us W (i + 1) ρ

section
variable (P : Program) (r : Option Nat) (m : Nat) (ops : Array Oper) (Q : Exit → Act → World → Prop) (ds : List Nat) (w W0 : World) (n : Nat) (κ0 : KV) (l : List Blk) (Φ : World → Prop)

def Hd (ts : List Nat) (ρ : List (Nat × Role)) (a : Act) (W : World) : Prop := ∀ p ∈ ρ, inL ts p.1 = true → ∃ b, p.2.holds b (a.tmps.getD p.1 undef) W
/-- What is asked of one operation. -/
def Obl (ρ : List (Nat × Role)) (o : Oper) (ro : Role) : Prop :=
  ro.stable ∧ ∀ a W, St ds w W n a (kq (tl o) ρ ++ κ0) l Φ → Later W0 W → Hd (tl o) ρ a W → Yl P o a W fun u W1 => Later W W1 ∧ ro.made W u W1
def Mix : Nat → List (Nat × Role) → List Oper → Prop
  | 0, ρ, lops => ∀ a W bs us, St ds w W n a (kall bs us 0 ρ ++ κ0) (ball bs 0 ρ ++ l) Φ → Later W0 W → lall us W 0 ρ → wpListIn (Fw r) m P ops Q lops a W
  | _ + 1, _, [] => False
  | k + 1, ρ, o :: rest => ∃ d ro, o.dst = some d ∧ Obl P ds w W0 n κ0 l Φ ρ o ro ∧ Mix k ((d, ro) :: ρ) rest

/-! ### which regions -/
def preds (md : Region.Mode) (o : Oper) : List Nat := (o.after.toList.filter (Region.binds md)).map (·.on)
def markF (md : Region.Mode) (lops : List Oper) : Nat → List Nat → List Nat
  | 0, S => S
  | j + 1, S => markF md lops j (bif inL S j then (match lops[j]? with | some o => preds md o | none => []) ++ S else S)
def dstsOf (lops : List Oper) (k : Nat) : List Nat := (lops.take k).filterMap (·.dst)
def dIdx : Nat → List Oper → List (Nat × Nat)
  | _, [] => []
  | i, o :: rest => match o.dst with | some d => (d, i) :: dIdx (i + 1) rest | none => dIdx (i + 1) rest
def looks (ps : List Nat) (t : Nat) : List (Nat × Nat) → Bool
  | [] => true
  | (d, j) :: D => (bif Nat.beq d t then inL ps j else true) && looks ps t D
def okTs (ps : List Nat) (D : List (Nat × Nat)) : List Nat → Bool
  | [] => true
  | t :: ts => looks ps t D && okTs ps D ts
def okPre (md : Region.Mode) (D : List (Nat × Nat)) (i : Nat) (o : Oper) : Bool :=
  o.guard.isNone && notDefer o && (preds md o).all (fun j => Nat.blt j i) && okTs (preds md o) D (tl o)
def okLast (md : Region.Mode) (lops : List Oper) (i : Nat) (o : Oper) : Bool :=
  (preds md o).all (fun j => Nat.blt j i) && (List.range i).all fun j => inL (markF md lops i (preds md o)) j
def nodupB : List Nat → Bool
  | [] => true
  | x :: xs => !(inL xs x) && nodupB xs
def okFrom (md : Region.Mode) (lops : List Oper) (D : List (Nat × Nat)) (k : Nat) : Nat → List Oper → Bool
  | _, [] => true
  | i, o :: rest => (bif Nat.blt i k then okPre md D i o else okLast md lops i o) && okFrom md lops D k (i + 1) rest
def mixB (md : Region.Mode) (lops : List Oper) (k : Nat) : Bool := Nat.ble k lops.length && nodupB (dstsOf lops k) && okFrom md lops (dIdx 0 (lops.take k)) k 0 lops
def apartB (κ0 : KV) (ds : List Nat) : Bool := κ0.all fun p => !(inL ds p.1)
end

set_option linter.unusedSimpArgs false
set_option linter.unnecessarySimpa false
section
variable {P : Program} {r : Option Nat} {m : Nat} {ops : Array Oper} {Q : Exit → Act → World → Prop} {ds : List Nat} {w W0 : World} {n : Nat} {κ0 : KV} {l : List Blk} {Φ : World → Prop} {md : Region.Mode} {lops : List Oper} {k : Nat}

theorem looks_spec {ps : List Nat} {t : Nat} : ∀ {D : List (Nat × Nat)}, looks ps t D = true → ∀ j, (t, j) ∈ D → inL ps j = true
  | [], _, j, hj => by cases hj
  | (d, j') :: D, h, j, hj => by
    simp only [looks, Bool.and_eq_true] at h
    rcases List.mem_cons.1 hj with e | hj
    · cases e
      have := h.1
      rw [Nat.beq_refl] at this
      exact this
    · exact looks_spec h.2 j hj
theorem okTs_spec {ps : List Nat} {D : List (Nat × Nat)} : ∀ {ts : List Nat}, okTs ps D ts = true → ∀ t ∈ ts, ∀ j, (t, j) ∈ D → inL ps j = true
  | [], _, t, ht, _, _ => by cases ht
  | t' :: ts, h, t, ht, j, hj => by
    simp only [okTs, Bool.and_eq_true] at h
    rcases List.mem_cons.1 ht with rfl | ht
    · exact looks_spec h.1 j hj
    · exact okTs_spec h.2 t ht j hj
theorem dIdx_mem : ∀ {ops : List Oper} {i j : Nat} {o : Oper} {d : Nat}, ops[j]? = some o → o.dst = some d → (d, i + j) ∈ dIdx i ops
  | [], i, j, o, d, h, _ => by simp at h
  | o' :: ops, i, 0, o, d, h, hd => by
    simp only [List.getElem?_cons_zero, Option.some.injEq] at h
    subst h
    simp [dIdx, hd]
  | o' :: ops, i, j + 1, o, d, h, hd => by
    have := dIdx_mem (ops := ops) (i := i + 1) (j := j) (by simpa using h) hd
    rw [show i + 1 + j = i + (j + 1) by omega] at this
    simp only [dIdx]
    split
    · exact List.mem_cons_of_mem _ this
    · exact this
theorem okFrom_spec {D : List (Nat × Nat)} : ∀ (rest : List Oper) (i : Nat), okFrom md lops D k i rest = true → ∀ j o, rest[j]? = some o → if i + j < k then okPre md D (i + j) o = true else okLast md lops (i + j) o = true
  | [], _, _, j, o, h => by simp at h
  | o :: rest, i, hB, 0, o', h => by
    simp only [List.getElem?_cons_zero, Option.some.injEq] at h
    subst h
    simp only [okFrom, Bool.and_eq_true] at hB
    rw [Nat.add_zero]
    by_cases hk : i < k
    · rw [if_pos hk]; have := hB.1; rwa [show Nat.blt i k = true from Nat.blt_eq.mpr hk] at this
    · rw [if_neg hk]; have := hB.1; rwa [show Nat.blt i k = false by rw [← Bool.not_eq_true]; simpa [Nat.blt_eq] using hk] at this
  | o :: rest, i, hB, j + 1, o', h => by
    simp only [okFrom, Bool.and_eq_true] at hB
    have := okFrom_spec rest (i + 1) hB.2 j o' (by simpa using h)
    rwa [show i + 1 + j = i + (j + 1) by omega] at this

theorem Mix.roles : ∀ (k : Nat) (ρ : List (Nat × Role)) (rest : List Oper), Mix P r m ops Q ds w W0 n κ0 l Φ k ρ rest →
    ∃ ρs : List (Nat × Role), ρs.length = k ∧ k ≤ rest.length ∧ (∀ i o, i < k → rest[i]? = some o → ∃ p, ρs[i]? = some p ∧ o.dst = some p.1 ∧ Obl P ds w W0 n κ0 l Φ ((ρs.take i).reverse ++ ρ) o p.2) ∧
      Mix P r m ops Q ds w W0 n κ0 l Φ 0 (ρs.reverse ++ ρ) (rest.drop k)
  | 0, ρ, rest, h => ⟨[], rfl, Nat.zero_le _, fun i o hi => absurd hi (Nat.not_lt_zero i), h⟩
  | k + 1, ρ, [], h => h.elim
  | k + 1, ρ, o :: rest, h => by
    obtain ⟨d, ro, h1, h2, h3⟩ := h
    obtain ⟨ρs, e1, e2, e3, e4⟩ := Mix.roles k _ rest h3
    refine ⟨(d, ro) :: ρs, by simp [e1], by simpa using e2, ?_, ?_⟩
    · intro i o' hi ho
      cases i with
      | zero =>
        simp only [List.getElem?_cons_zero, Option.some.injEq] at ho
        subst ho
        exact ⟨(d, ro), rfl, h1, by simpa using h2⟩
      | succ i =>
        obtain ⟨p, f1, f2, f3⟩ := e3 i o' (by omega) (by simpa using ho)
        exact ⟨p, by simpa using f1, f2, by simpa using f3⟩
    · simpa using e4

theorem kq_lk {ts : List Nat} : ∀ {ρ : List (Nat × Role)} {t : Nat} {v : Value}, lk (kq ts ρ) t = some v → inL ts t = true ∧ (t, Role.q v) ∈ ρ
  | [], t, v, h => by cases h
  | (s, .q u) :: ρ, t, v, h => by
    simp only [kq] at h
    cases hb : inL ts s with
    | false => rw [hb] at h; have := kq_lk (ρ := ρ) h; exact ⟨this.1, List.mem_cons_of_mem _ this.2⟩
    | true =>
      rw [hb] at h
      rcases lk_put h with ⟨rfl, rfl⟩ | ⟨_, h⟩
      · exact ⟨hb, List.mem_cons_self⟩
      · have := kq_lk (ρ := ρ) h; exact ⟨this.1, List.mem_cons_of_mem _ this.2⟩
  | (s, .al f cs T) :: ρ, t, v, h => by have := kq_lk (ρ := ρ) h; exact ⟨this.1, List.mem_cons_of_mem _ this.2⟩
  | (s, .l R) :: ρ, t, v, h => by have := kq_lk (ρ := ρ) h; exact ⟨this.1, List.mem_cons_of_mem _ this.2⟩
theorem lk_app : ∀ {κ κ' : KV} {t : Nat} {v : Value}, lk (κ ++ κ') t = some v → lk κ t = some v ∨ lk κ' t = some v
  | [], κ', t, v, h => .inr h
  | (s, u) :: κ, κ', t, v, h => by
    rcases lk_put h with ⟨rfl, rfl⟩ | ⟨hne, h⟩
    · exact .inl (by simp [lk])
    · rcases lk_app h with h | h
      · exact .inl (by simp only [lk]; rw [show Nat.beq s t = false by rw [← Bool.not_eq_true]; intro e; exact hne (Nat.eq_of_beq_eq_true e)]; exact h)
      · exact .inr h
theorem lk_mem : ∀ {κ : KV} {t : Nat} {v : Value}, lk κ t = some v → (t, v) ∈ κ
  | (s, u) :: κ, t, v, h => by
    rcases lk_put h with ⟨rfl, rfl⟩ | ⟨_, h⟩
    · exact List.mem_cons_self
    · exact List.mem_cons_of_mem _ (lk_mem h)

/-- The state on the way. -/
structure On (ds : List Nat) (w W0 : World) (n : Nat) (κ0 : KV) (l : List Blk) (Φ : World → Prop) (md : Region.Mode) (lops : List Oper) (k : Nat) (ρs : List (Nat × Role)) (bs : Nat → Nat) (listed : Array Bool) (a : Act) (W : World) : Prop where
  st : St ds w W n a κ0 l Φ
  late : Later W0 W
  size : listed.size = lops.length
  down : ∀ i o, listed.getD i false = true → lops[i]? = some o → ∀ j ∈ preds md o, listed.getD j false = true
  has : ∀ i p, ρs[i]? = some p → listed.getD i false = true → p.2.holds (bs i) (a.tmps.getD p.1 undef) W
  new : ∀ i p, ρs[i]? = some p → listed.getD i false = true → p.2.isAl = true → W0.heap.size ≤ bs i ∧ bs i < W.heap.size
  dist : ∀ i j p p', ρs[i]? = some p → ρs[j]? = some p' → listed.getD i false = true → listed.getD j false = true → p.2.isAl = true → p'.2.isAl = true → i ≠ j → bs i ≠ bs j
theorem preds_mem {o : Oper} {j : Nat} : j ∈ preds md o ↔ ∃ e ∈ o.after, Region.binds md e = true ∧ e.on = j := by
  simp only [preds, List.mem_map, List.mem_filter, Array.mem_toList_iff]
  constructor
  · rintro ⟨e, ⟨h1, h2⟩, h3⟩; exact ⟨e, h1, h2, h3⟩
  · rintro ⟨e, h1, h2, h3⟩; exact ⟨e, ⟨h1, h2⟩, h3⟩
theorem mark_spec {S0 : Nat → Prop} (hc : ∀ i o, S0 i → lops[i]? = some o → ∀ j ∈ preds md o, S0 j) : ∀ (i : Nat) (S : List Nat), (∀ j ∈ S, S0 j) → ∀ j ∈ markF md lops i S, S0 j
  | 0, S, h => h
  | i + 1, S, h => by
    refine mark_spec hc i _ ?_
    cases hb : inL S i with
    | false => exact h
    | true =>
      have hi := h i (inL_iff.1 hb)
      intro j hj
      rcases List.mem_append.1 hj with hj | hj
      · cases ho : lops[i]? with
        | none => rw [ho] at hj; cases hj
        | some o => rw [ho] at hj; exact hc i o hi ho j hj
      · exact h j hj
theorem nodupB_spec : ∀ {xs : List Nat}, nodupB xs = true → xs.Nodup
  | [], _ => List.nodup_nil
  | x :: xs, h => by
    simp only [nodupB, Bool.and_eq_true, Bool.not_eq_true'] at h
    refine List.nodup_cons.2 ⟨fun hm => ?_, nodupB_spec h.2⟩
    rw [inL_iff.2 hm] at h; simp at h

theorem getD_true {A : Array Bool} {i : Nat} (h : A.getD i false = true) : i < A.size := by
  rcases Nat.lt_or_ge i A.size with h' | h'
  · exact h'
  · simp [Array.getElem?_eq_none h'] at h
theorem getD_ft {A : Array Bool} {i : Nat} (hi : i < A.size) : A.getD i true = A.getD i false := by simp [hi]
theorem put_get {a : Act} {d : Nat} {u : Value} {t : Nat} (hne : t ≠ d) : (a.put (some d) u).tmps.getD t undef = a.tmps.getD t undef := by
  show (a.tmps.setIfInBounds d u).getD t undef = _
  simp only [Array.getD_eq_getD_getElem?, Array.getElem?_setIfInBounds]
  rw [if_neg (fun e => hne e.symm)]
theorem ready_iff {listed : Array Bool} (hz : listed.size = lops.length) {i : Nat} : i ∈ Region.ready md lops.toArray listed ↔ ∃ o, lops[i]? = some o ∧ listed.getD i false = false ∧ ∀ j ∈ preds md o, listed.getD j false = true := by
  rw [mem_ready]
  constructor
  · rintro ⟨h1, o, h2, h3⟩
    have h2' : lops[i]? = some o := by simpa using h2
    have hlt : i < lops.length := (List.getElem?_eq_some_iff.1 h2').1
    refine ⟨o, h2', by rw [← getD_ft (by omega)]; exact h1, fun j hj => ?_⟩
    obtain ⟨e, he, hb, rfl⟩ := preds_mem.1 hj
    exact h3 e he hb
  · rintro ⟨o, h2, h1, h3⟩
    have hlt : i < lops.length := (List.getElem?_eq_some_iff.1 h2).1
    exact ⟨by rw [getD_ft (by omega)]; exact h1, o, by simpa using h2, fun e he hb => h3 _ (preds_mem.2 ⟨e, he, hb, rfl⟩)⟩

theorem ball_mem {bs : Nat → Nat} : ∀ {ρ : List (Nat × Role)} {i : Nat} {B : Blk}, B ∈ ball bs i ρ → ∃ (j : Nat) (d : Nat) (f : Nat → Value) (cs : List Value) (T : TypeId), ρ[j]? = some (d, Role.al f cs T) ∧ B = ⟨bs (i + j), cs, T⟩
  | [], i, B, h => by cases h
  | (d, .q v) :: ρ, i, B, h => by
    obtain ⟨j, d', f, cs, T, h1, h2⟩ := ball_mem (ρ := ρ) (i := i + 1) h
    exact ⟨j + 1, d', f, cs, T, by simpa using h1, by rw [h2, show i + (j + 1) = i + 1 + j by omega]⟩
  | (d, .l R) :: ρ, i, B, h => by
    obtain ⟨j, d', f, cs, T, h1, h2⟩ := ball_mem (ρ := ρ) (i := i + 1) h
    exact ⟨j + 1, d', f, cs, T, by simpa using h1, by rw [h2, show i + (j + 1) = i + 1 + j by omega]⟩
  | (d, .al f cs T) :: ρ, i, B, h => by
    rcases List.mem_cons.1 h with rfl | h
    · exact ⟨0, d, f, cs, T, rfl, rfl⟩
    · obtain ⟨j, d', f', cs', T', h1, h2⟩ := ball_mem (ρ := ρ) (i := i + 1) h
      exact ⟨j + 1, d', f', cs', T', by simpa using h1, by rw [h2, show i + (j + 1) = i + 1 + j by omega]⟩
theorem ball_pair {bs : Nat → Nat} : ∀ {ρ : List (Nat × Role)} {i : Nat}, (∀ (j j' : Nat) (p p' : Nat × Role), ρ[j]? = some p → ρ[j']? = some p' → p.2.isAl = true → p'.2.isAl = true → j ≠ j' → bs (i + j) ≠ bs (i + j')) → (ball bs i ρ).Pairwise (fun x y => x.b ≠ y.b)
  | [], i, h => List.Pairwise.nil
  | (d, .q v) :: ρ, i, h => ball_pair (ρ := ρ) (i := i + 1) fun j j' p p' h1 h2 h3 h4 h5 => by
    have := h (j + 1) (j' + 1) p p' (by simpa using h1) (by simpa using h2) h3 h4 (by omega)
    rwa [show i + (j + 1) = i + 1 + j by omega, show i + (j' + 1) = i + 1 + j' by omega] at this
  | (d, .l R) :: ρ, i, h => ball_pair (ρ := ρ) (i := i + 1) fun j j' p p' h1 h2 h3 h4 h5 => by
    have := h (j + 1) (j' + 1) p p' (by simpa using h1) (by simpa using h2) h3 h4 (by omega)
    rwa [show i + (j + 1) = i + 1 + j by omega, show i + (j' + 1) = i + 1 + j' by omega] at this
  | (d, .al f cs T) :: ρ, i, h => by
    refine List.Pairwise.cons (fun B hB => ?_) (ball_pair (ρ := ρ) (i := i + 1) fun j j' p p' h1 h2 h3 h4 h5 => by
      have := h (j + 1) (j' + 1) p p' (by simpa using h1) (by simpa using h2) h3 h4 (by omega)
      rwa [show i + (j + 1) = i + 1 + j by omega, show i + (j' + 1) = i + 1 + j' by omega] at this)
    obtain ⟨j, d', f', cs', T', h1, rfl⟩ := ball_mem hB
    have := h 0 (j + 1) _ _ rfl (by simpa using h1) rfl rfl (by omega)
    rwa [show i + (j + 1) = i + 1 + j by omega, Nat.add_zero] at this
theorem kall_lk {bs : Nat → Nat} {us : Nat → Value} : ∀ {ρ : List (Nat × Role)} {i : Nat} {t : Nat} {v : Value}, lk (kall bs us i ρ) t = some v → ∃ (j : Nat) (ro : Role), ρ[j]? = some (t, ro) ∧ kval bs us (i + j) ro = v
  | [], i, t, v, h => by cases h
  | (s, .q u) :: ρ, i, t, v, h => by
    rcases lk_put h with ⟨rfl, rfl⟩ | ⟨_, h⟩
    · exact ⟨0, _, rfl, rfl⟩
    · obtain ⟨j, ro, h1, h2⟩ := kall_lk (ρ := ρ) (i := i + 1) h
      refine ⟨j + 1, ro, by simpa using h1, ?_⟩
      rw [show i + (j + 1) = i + 1 + j by omega]; exact h2
  | (s, .al f cs T) :: ρ, i, t, v, h => by
    rcases lk_put h with ⟨rfl, rfl⟩ | ⟨_, h⟩
    · exact ⟨0, _, rfl, rfl⟩
    · obtain ⟨j, ro, h1, h2⟩ := kall_lk (ρ := ρ) (i := i + 1) h
      refine ⟨j + 1, ro, by simpa using h1, ?_⟩
      rw [show i + (j + 1) = i + 1 + j by omega]; exact h2
  | (s, .l R) :: ρ, i, t, v, h => by
    rcases lk_put h with ⟨rfl, rfl⟩ | ⟨_, h⟩
    · exact ⟨0, _, rfl, rfl⟩
    · obtain ⟨j, ro, h1, h2⟩ := kall_lk (ρ := ρ) (i := i + 1) h
      refine ⟨j + 1, ro, by simpa using h1, ?_⟩
      rw [show i + (j + 1) = i + 1 + j by omega]; exact h2
theorem lall_of {us : Nat → Value} {W : World} : ∀ {ρ : List (Nat × Role)} {i : Nat}, (∀ (j : Nat) (d : Nat) (R : Value → World → Prop), ρ[j]? = some (d, Role.l R) → R (us (i + j)) W) → lall us W i ρ
  | [], _, _ => trivial
  | (_, .q _) :: ρ, i, h => lall_of (ρ := ρ) (i := i + 1) fun j d R hj => by
    have := h (j + 1) d R (by simpa using hj); rwa [show i + (j + 1) = i + 1 + j by omega] at this
  | (_, .al _ _ _) :: ρ, i, h => lall_of (ρ := ρ) (i := i + 1) fun j d R hj => by
    have := h (j + 1) d R (by simpa using hj); rwa [show i + (j + 1) = i + 1 + j by omega] at this
  | (s, .l R) :: ρ, i, h => ⟨h 0 s R rfl, lall_of (ρ := ρ) (i := i + 1) fun j d R hj => by
    have := h (j + 1) d R (by simpa using hj); rwa [show i + (j + 1) = i + 1 + j by omega] at this⟩

/-- The last ones, one behind the other. -/
theorem mix_last (hB : ∀ i o, lops[i]? = some o → k ≤ i → okLast md lops i o = true) : ∀ (fuel i : Nat) (listed : Array Bool) (a : Act) (W : World), k ≤ i → listed.size = lops.length → lops.length = i + fuel →
    (∀ j, listed.getD j false = true ↔ j < i) → (∀ j o, listed.getD j false = true → lops[j]? = some o → ∀ j' ∈ preds md o, listed.getD j' false = true) →
    wpListIn (Fw r) m P lops.toArray Q (lops.drop i) a W → wpAnyIn (Fw r) m P md lops.toArray Q fuel listed a W
  | 0, i, listed, a, W, hk, hz, hf, hl, hd, h => by
    rw [List.drop_eq_nil_of_le (by omega)] at h
    refine ⟨?_, h⟩
    rw [List.eq_nil_iff_forall_not_mem]
    intro j hj
    obtain ⟨o, h1, h2, _⟩ := (ready_iff hz).1 hj
    have := (hl j).2 (by have := (List.getElem?_eq_some_iff.1 h1).1; omega)
    rw [h2] at this; cases this
  | fuel + 1, i, listed, a, W, hk, hz, hf, hl, hd, h => by
    have hlt : i < lops.length := by omega
    have ho : lops[i]? = some lops[i] := List.getElem?_eq_getElem hlt
    have hi0 : listed.getD i false = false := by
      cases hq : listed.getD i false with
      | false => rfl
      | true => have := (hl i).1 hq; omega
    have hrdy : i ∈ Region.ready md lops.toArray listed := by
      refine (ready_iff hz).2 ⟨_, ho, hi0, fun j hj => (hl j).2 ?_⟩
      have h1 := hB i _ ho hk
      simp only [okLast, Bool.and_eq_true, List.all_eq_true] at h1
      exact Nat.blt_eq.mp (h1.1 j hj)
    have honly : ∀ j ∈ Region.ready md lops.toArray listed, j = i := by
      intro j hj
      obtain ⟨o, h1, h2, h3⟩ := (ready_iff hz).1 hj
      have hji : i ≤ j := by
        apply Nat.le_of_not_lt; intro hc
        have := (hl j).2 hc; rw [h2] at this; cases this
      rcases Nat.lt_or_eq_of_le hji with hc | hc
      · have h4 := hB j o h1 (by omega)
        simp only [okLast, Bool.and_eq_true, List.all_eq_true, List.mem_range] at h4
        have h5 := mark_spec (lops := lops) (md := md) (S0 := fun j => listed.getD j false = true) hd j _ h3 i (inL_iff.1 (h4.2 i hc))
        rw [hi0] at h5; cases h5
      · exact hc.symm
    refine ⟨fun h0 => (by rw [h0] at hrdy; exact absurd hrdy (List.not_mem_nil)), fun j hj => ?_⟩
    rw [honly j hj]
    have hrest : ∀ a' W', wpListIn (Fw r) m P lops.toArray Q (lops.drop (i + 1)) a' W' → wpAnyIn (Fw r) m P md lops.toArray Q fuel (listed.setIfInBounds i true) a' W' := by
      intro a' W' h'
      have hset : ∀ j, (listed.setIfInBounds i true).getD j false = true ↔ j < i + 1 := by
        intro j
        by_cases e : i = j
        · subst e; simp [show i < listed.size by omega]
        · rw [getD_set_ne false e, hl]; omega
      refine mix_last hB fuel (i + 1) _ a' W' (by omega) (by simpa using hz) (by omega) hset ?_ h'
      intro j o hj ho' j' hj'
      rw [hset] at hj ⊢
      rcases Nat.lt_or_eq_of_le (Nat.le_of_lt_succ hj) with hc | hc
      · have := hd j o ((hl j).2 hc) ho' j' hj'
        have := (hl j').1 this; omega
      · subst hc
        have h1 := hB j o ho' hk
        simp only [okLast, Bool.and_eq_true, List.all_eq_true] at h1
        have := Nat.blt_eq.mp (h1.1 j' hj'); omega
    rw [List.drop_eq_getElem_cons hlt] at h
    unfold wpOpIn
    rw [show (lops.toArray)[i]? = some lops[i] by simpa using ho]
    simp only
    unfold wpListIn at h
    by_cases hw : Region.wanted lops[i] (yielded lops.toArray a.tmps) = true
    · rw [if_pos hw] at h ⊢
      exact Oper.wpIn_mono hrest h
    · rw [if_neg hw] at h ⊢
      exact ⟨h.1, hrest _ _ h.2⟩

theorem exists_unlisted {listed : Array Bool} {N : Nat} (h : ∃ i, i < N ∧ listed.getD i false = false) : ∃ i, i < N ∧ listed.getD i false = false ∧ ∀ j, j < i → listed.getD j false = true := by
  obtain ⟨i, hi, h⟩ := h
  induction i using Nat.strongRecOn with
  | _ i ih =>
    by_cases hc : ∃ j, j < i ∧ listed.getD j false = false
    · obtain ⟨j, hj, hf⟩ := hc
      exact ih j hj (by omega) hf
    · refine ⟨i, hi, h, fun j hj => ?_⟩
      cases hq : listed.getD j false with
      | true => rfl
      | false => exact absurd ⟨j, hj, hq⟩ hc
def cnt (listed : Array Bool) : Nat → Nat
  | 0 => 0
  | N + 1 => cnt listed N + if listed.getD N false then 0 else 1
theorem cnt_set_hi {listed : Array Bool} {i : Nat} : ∀ {N : Nat}, N ≤ i → cnt (listed.setIfInBounds i true) N = cnt listed N
  | 0, _ => rfl
  | N + 1, h => by
    simp only [cnt]
    rw [cnt_set_hi (by omega), getD_set_ne false (by omega)]
theorem cnt_set {listed : Array Bool} {i : Nat} (h : listed.getD i false = false) (hi : i < listed.size) : ∀ {N : Nat}, i < N → cnt (listed.setIfInBounds i true) N + 1 = cnt listed N
  | 0, hN => absurd hN (Nat.not_lt_zero i)
  | N + 1, hN => by
    simp only [cnt]
    by_cases e : i = N
    · subst e
      rw [cnt_set_hi (Nat.le_refl _), h]
      simp [hi]
    · have := cnt_set h hi (show i < N by omega)
      rw [getD_set_ne false e]; omega
theorem cnt_prefix {listed : Array Bool} {k : Nat} (h : ∀ j, listed.getD j false = true ↔ j < k) : ∀ N, k ≤ N → cnt listed N + k = N := by
  have h0 : ∀ N, N ≤ k → cnt listed N = 0 := by
    intro N
    induction N with
    | zero => intro _; rfl
    | succ N ih => intro hN; simp only [cnt]; rw [ih (by omega), (h N).2 (by omega)]; rfl
  intro N
  induction N with
  | zero => intro hN; simp only [cnt]; omega
  | succ N ih =>
    intro hN
    rcases Nat.lt_or_eq_of_le hN with hc | hc
    · have := ih (by omega)
      simp only [cnt]
      have : listed.getD N false = false := by
        cases hq : listed.getD N false with
        | false => rfl
        | true => have := (h N).1 hq; omega
      rw [this]; simp; omega
    · rw [h0 _ (by omega)]; omega
theorem cnt_zero {listed : Array Bool} : ∀ {N : Nat}, cnt listed N = 0 → ∀ i, i < N → listed.getD i false = true
  | 0, _, i, hi => absurd hi (Nat.not_lt_zero i)
  | N + 1, h, i, hi => by
    simp only [cnt] at h
    rcases Nat.lt_or_eq_of_le (Nat.le_of_lt_succ hi) with hc | hc
    · exact cnt_zero (N := N) (by omega) i hc
    · subst hc
      cases hq : listed.getD i false with
      | true => rfl
      | false => rw [hq] at h; simp at h

theorem Mix.final {ρ : List (Nat × Role)} {a : Act} {W : World} {bs : Nat → Nat} (hfin : Mix P r m ops Q ds w W0 n κ0 l Φ 0 ρ lops) (hS : St ds w W n a κ0 l Φ) (hL : Later W0 W) (hw0 : w.heap.size ≤ W0.heap.size) (hl0 : ∀ B ∈ l, B.b < W0.heap.size) (hΦ : ∀ W', Off l W0 W' → W0.heap.size ≤ W'.heap.size → Φ W')
    (has : ∀ (i : Nat) (p : Nat × Role), ρ[i]? = some p → p.2.holds (bs i) (a.tmps.getD p.1 undef) W) (new : ∀ (i : Nat) (p : Nat × Role), ρ[i]? = some p → p.2.isAl = true → W0.heap.size ≤ bs i)
    (dist : ∀ (j j' : Nat) (p p' : Nat × Role), ρ[j]? = some p → ρ[j']? = some p' → p.2.isAl = true → p'.2.isAl = true → j ≠ j' → bs j ≠ bs j') : wpListIn (Fw r) m P ops Q lops a W := by
  refine hfin a W bs (fun i => match ρ[i]? with | some p => a.tmps.getD p.1 undef | none => undef) ?_ hL ?_
  · refine ⟨hS.size, hS.defers, ?_, hS.below, ?_, ?_, ?_, ?_⟩
    · intro t v ht
      rcases lk_app ht with ht | ht
      · obtain ⟨j, ro, h1, h2⟩ := kall_lk ht
        have h3 := has j _ h1
        rw [Nat.zero_add] at h2
        cases ro with
        | q v' => simp only [kval] at h2; subst h2; exact h3
        | al f cs T => simp only [kval] at h2; subst h2; exact h3.1
        | l R => simp only [kval, h1] at h2; exact h2
      · exact hS.get t v ht
    · intro B hB
      rcases List.mem_append.1 hB with hB | hB
      · obtain ⟨j, d, f, cs, T, h1, rfl⟩ := ball_mem hB
        have h3 := has j _ h1
        rw [Nat.zero_add]
        exact h3.2
      · exact hS.blk B hB
    · intro B hB
      rcases List.mem_append.1 hB with hB | hB
      · obtain ⟨j, d, f, cs, T, h1, rfl⟩ := ball_mem hB
        have := new j _ h1 rfl
        show w.heap.size ≤ bs (0 + j)
        rw [Nat.zero_add]; omega
      · exact hS.old B hB
    · refine List.pairwise_append.2 ⟨ball_pair fun j j' p p' h1 h2 h3 h4 h5 => by rw [Nat.zero_add, Nat.zero_add]; exact dist j j' p p' h1 h2 h3 h4 h5, hS.dist, ?_⟩
      intro x hx y hy
      obtain ⟨j, d, f, cs, T, h1, rfl⟩ := ball_mem hx
      have := new j _ h1 rfl
      have := hl0 y hy
      show bs (0 + j) ≠ y.b
      rw [Nat.zero_add]; omega
    · intro W' ho hz
      refine hΦ W' ⟨ho.os.trans hL.os, ho.tape.trans hL.tape, ho.output.trans hL.output, fun k hk hn => ?_⟩ (Nat.le_trans hL.size hz)
      rw [ho.same k (Nat.lt_of_lt_of_le hk hL.size) (fun B hB => ?_), hL.block k hk]
      rcases List.mem_append.1 hB with hB | hB
      · obtain ⟨j, d, f, cs, T, h1, rfl⟩ := ball_mem hB
        have := new j _ h1 rfl
        show k ≠ bs (0 + j)
        rw [Nat.zero_add]; omega
      · exact hn B hB
  · refine lall_of fun j d R hj => ?_
    have := has j _ hj
    rw [Nat.zero_add]
    simp only [hj]
    exact this

/-- Whatever order is picked. -/
theorem mix_any {ρs : List (Nat × Role)} (hk : k ≤ lops.length) (hρ : ρs.length = k) (hap : apartB κ0 (dstsOf lops k) = true)
    (hobl : ∀ i o, i < k → lops[i]? = some o → ∃ p, ρs[i]? = some p ∧ o.dst = some p.1 ∧ Obl P ds w W0 n κ0 l Φ ((ρs.take i).reverse ++ []) o p.2)
    (hn : ∀ d ∈ dstsOf lops k, Nat.blt d n = true) (hpre : ∀ i o, lops[i]? = some o → i < k → okPre md (dIdx 0 (lops.take k)) i o = true) (hlast : ∀ i o, lops[i]? = some o → k ≤ i → okLast md lops i o = true) (hnd : ∀ i j o o' d, lops[i]? = some o → lops[j]? = some o' → i < k → j < k → o.dst = some d → o'.dst = some d → i = j)
    (hl0 : ∀ B ∈ l, B.b < W0.heap.size) (hΦ : ∀ W', Off l W0 W' → W0.heap.size ≤ W'.heap.size → Φ W') (hw0 : w.heap.size ≤ W0.heap.size)
    (hfin : Mix P r m lops.toArray Q ds w W0 n κ0 l Φ 0 (ρs.reverse ++ []) (lops.drop k)) :
    ∀ (fuel : Nat) (bs : Nat → Nat) (listed : Array Bool) (a : Act) (W : World), cnt listed lops.length = fuel → (∀ i, k ≤ i → listed.getD i false = false) → On ds w W0 n κ0 l Φ md lops k ρs bs listed a W →
      wpAnyIn (Fw r) m P md lops.toArray Q fuel listed a W := by
  have hdst : ∀ (i : Nat) (p : Nat × Role) (o : Oper), ρs[i]? = some p → lops[i]? = some o → o.dst = some p.1 := by
    intro i p o h1 h2
    have hi : i < k := by rw [← hρ]; exact (List.getElem?_eq_some_iff.1 h1).1
    obtain ⟨p', e1, e2, _⟩ := hobl i o hi h2
    rw [h1] at e1; cases e1; exact e2
  have hin : ∀ (i : Nat) (p : Nat × Role), ρs[i]? = some p → p.1 ∈ dstsOf lops k := by
    intro i p h1
    have hi : i < k := by rw [← hρ]; exact (List.getElem?_eq_some_iff.1 h1).1
    have ho : lops[i]? = some (lops[i]'(by omega)) := List.getElem?_eq_getElem (by omega)
    refine List.mem_filterMap.2 ⟨lops[i]'(by omega), ?_, hdst i p _ h1 ho⟩
    rw [List.mem_take_iff_getElem]
    exact ⟨i, by omega, rfl⟩
  have hdone : ∀ (fuel : Nat) (bs : Nat → Nat) (listed : Array Bool) (a : Act) (W : World), cnt listed lops.length = fuel → (∀ i, k ≤ i → listed.getD i false = false) → (∀ i, i < k → listed.getD i false = true) →
      On ds w W0 n κ0 l Φ md lops k ρs bs listed a W → wpAnyIn (Fw r) m P md lops.toArray Q fuel listed a W := by
    intro fuel bs listed a W hc hlo hall hO
    have hiff : ∀ j, listed.getD j false = true ↔ j < k := by
      intro j
      refine ⟨fun h => ?_, hall j⟩
      apply Nat.lt_of_not_le; intro hc; rw [hlo j hc] at h; cases h
    refine mix_last hlast fuel k listed a W (Nat.le_refl _) hO.size (by have := cnt_prefix hiff lops.length hk; omega) hiff (fun j o h1 h2 j' h3 => hO.down j o h1 h2 j' h3) ?_
    have hrev : ∀ i (p : Nat × Role), (ρs.reverse ++ [])[i]? = some p → i < k ∧ ρs[k - 1 - i]? = some p := by
      intro i p h
      rw [List.append_nil] at h
      have hlt : i < ρs.reverse.length := (List.getElem?_eq_some_iff.1 h).1
      rw [List.length_reverse, hρ] at hlt
      refine ⟨hlt, ?_⟩
      rw [List.getElem?_reverse (by omega), hρ] at h
      exact h
    refine Mix.final (bs := fun i => bs (k - 1 - i)) hfin hO.st hO.late hw0 hl0 hΦ ?_ ?_ ?_
    · intro i p h
      obtain ⟨h1, h2⟩ := hrev i p h
      exact hO.has _ _ h2 (hall _ (by omega))
    · intro i p h hp
      obtain ⟨h1, h2⟩ := hrev i p h
      exact (hO.new _ _ h2 (hall _ (by omega)) hp).1
    · intro j j' p p' h h' hp hp' hne
      obtain ⟨h1, h2⟩ := hrev j p h
      obtain ⟨h3, h4⟩ := hrev j' p' h'
      exact hO.dist _ _ _ _ h2 h4 (hall _ (by omega)) (hall _ (by omega)) hp hp' (by omega)
  intro fuel
  induction fuel with
  | zero =>
    intro bs listed a W hc hlo hO
    exact hdone 0 bs listed a W hc hlo (fun i hi => cnt_zero hc i (by omega)) hO
  | succ fuel ih =>
    intro bs listed a W hc hlo hO
    by_cases hall : ∀ i, i < k → listed.getD i false = true
    · exact hdone _ bs listed a W hc hlo hall hO
    · have hex : ∃ i, i < k ∧ listed.getD i false = false := by
        apply Classical.byContradiction
        intro hne
        refine hall fun i hi => ?_
        cases hq : listed.getD i false with
        | true => rfl
        | false => exact absurd ⟨i, hi, hq⟩ hne
      obtain ⟨i0, hi0, hf0, hmin⟩ := exists_unlisted hex
      have ho0 : lops[i0]? = some (lops[i0]'(by omega)) := List.getElem?_eq_getElem (by omega)
      have hr0 : i0 ∈ Region.ready md lops.toArray listed := by
        refine (ready_iff hO.size).2 ⟨_, ho0, hf0, fun j hj => hmin j ?_⟩
        have h1 := hpre i0 _ ho0 hi0
        simp only [okPre, Bool.and_eq_true, List.all_eq_true] at h1
        exact Nat.blt_eq.mp (h1.1.2 j hj)
      refine ⟨fun h0 => (by rw [h0] at hr0; exact absurd hr0 (List.not_mem_nil)), fun i hi => ?_⟩
      obtain ⟨o, h1, h2, h3⟩ := (ready_iff hO.size).1 hi
      have hik : i < k := by
        apply Nat.lt_of_not_le; intro hc'
        have h4 := hlast i o h1 hc'
        simp only [okLast, Bool.and_eq_true, List.all_eq_true, List.mem_range] at h4
        have h5 := mark_spec (lops := lops) (md := md) (S0 := fun j => listed.getD j false = true) (fun i o h h' j hj => hO.down i o h h' j hj) i _ h3 i0 (inL_iff.1 (h4.2 i0 (by omega)))
        rw [hf0] at h5; cases h5
      obtain ⟨p, hp, hd, hst, hyl⟩ := hobl i o hik h1
      have hop := hpre i o h1 hik
      simp only [okPre, Bool.and_eq_true, List.all_eq_true, Option.isNone_iff_eq_none] at hop
      obtain ⟨⟨⟨hg, hnd'⟩, hlow⟩, hdeps⟩ := hop
      have hρi : ∀ q ∈ (ρs.take i).reverse ++ [], ∃ j, j < i ∧ ρs[j]? = some q := by
        intro q hq
        rw [List.append_nil, List.mem_reverse, List.mem_take_iff_getElem] at hq
        obtain ⟨j, hj, rfl⟩ := hq
        exact ⟨j, by omega, List.getElem?_eq_getElem (by omega)⟩
      have hdep : ∀ q ∈ (ρs.take i).reverse ++ [], inL (tl o) q.1 = true → ∃ j, ρs[j]? = some q ∧ listed.getD j false = true := by
        intro q hq hin'
        obtain ⟨j, hj, hqj⟩ := hρi q hq
        have hoj : lops[j]? = some (lops[j]'(by omega)) := List.getElem?_eq_getElem (by omega)
        have hm := dIdx_mem (ops := lops.take k) (i := 0) (j := j) (by rw [List.getElem?_take_of_lt (by omega)]; exact hoj) (hdst j q _ hqj hoj)
        rw [Nat.zero_add] at hm
        have h4 := okTs_spec hdeps q.1 (inL_iff.1 hin') j hm
        exact ⟨j, hqj, h3 j (inL_iff.1 h4)⟩
      have hStq : St ds w W n a (kq (tl o) ((ρs.take i).reverse ++ []) ++ κ0) l Φ := by
        refine ⟨hO.st.size, hO.st.defers, fun t v ht => ?_, hO.st.below, hO.st.blk, hO.st.old, hO.st.dist, hO.st.fact⟩
        rcases lk_app ht with ht | ht
        · obtain ⟨e1, e2⟩ := kq_lk ht
          obtain ⟨j, hqj, hlj⟩ := hdep _ e2 e1
          exact hO.has j _ hqj hlj
        · exact hO.st.get t v ht
      have hHd : Hd (tl o) ((ρs.take i).reverse ++ []) a W := by
        intro q hq hin'
        obtain ⟨j, hqj, hlj⟩ := hdep q hq hin'
        exact ⟨bs j, hO.has j _ hqj hlj⟩
      have hy := hyl a W hStq hO.late hHd
      unfold wpOpIn
      rw [show (lops.toArray)[i]? = some o by simpa using h1]
      simp only
      rw [if_pos (by simp [Region.wanted, hg])]
      refine Yl.wpIn hnd' hy ?_
      rintro u W1 ⟨hlat, hmade⟩
      have hlen : i < listed.size := by rw [hO.size]; exact (List.getElem?_eq_some_iff.1 h1).1
      have hset : ∀ j, (listed.setIfInBounds i true).getD j false = true ↔ (j = i ∨ listed.getD j false = true) := by
        intro j
        by_cases e : i = j
        · subst e; simp [hlen]
        · rw [getD_set_ne false e]
          exact ⟨.inr, fun h => h.resolve_left (fun h => e h.symm)⟩
      have hdn := hn p.1 (hin i p hp)
      -- the block, if one is made
      obtain ⟨b, hb⟩ : ∃ b, p.2.holds b u W1 ∧ (p.2.isAl = true → W.heap.size ≤ b ∧ b < W1.heap.size) := by
        revert hmade
        cases p.2 with
        | q v => intro h; exact ⟨0, h, fun h => by cases h⟩
        | al f cs T => rintro ⟨b, e1, e2, e3⟩; exact ⟨b, ⟨e1, e3⟩, fun _ => ⟨e2, (Array.getElem?_eq_some_iff.1 e3).1⟩⟩
        | l R => intro h; exact ⟨0, h, fun h => by cases h⟩
      rw [hd]
      refine ih (fun j => if j = i then b else bs j) _ _ W1 ?_ ?_ ⟨?_, ?_, ?_, ?_, ?_, ?_, ?_⟩
      · have := cnt_set h2 hlen (N := lops.length) (by rw [← hO.size]; exact hlen); omega
      · intro j hj
        rw [getD_set_ne false (by omega)]; exact hlo j hj
      · have hg1 := hO.st.grow hlat
        have hput := hg1.put hdn u
        refine ⟨hput.size, hput.defers, fun t v ht => hput.get t v ?_, hput.below, hput.blk, hput.old, hput.dist, hput.fact⟩
        have hne : p.1 ≠ t := by
          have hmem := lk_mem ht
          intro e; subst e
          have := List.all_eq_true.1 hap _ hmem
          rw [inL_iff.2 (hin i p hp)] at this; cases this
        simp only [lk]
        rw [show Nat.beq p.1 t = false by rw [← Bool.not_eq_true]; intro e; exact hne (Nat.eq_of_beq_eq_true e)]
        exact ht
      · exact hO.late.trans hlat
      · simpa using hO.size
      · intro j oj hj hoj j' hj'
        rw [hset] at hj ⊢
        rcases hj with rfl | hj
        · rw [h1] at hoj; cases hoj
          exact .inr (h3 j' hj')
        · exact .inr (hO.down j oj hj hoj j' hj')
      · intro j q hqj hlj
        rw [hset] at hlj
        by_cases e : j = i
        · subst e
          rw [hp] at hqj; cases hqj
          rw [if_pos rfl]
          have hds : p.1 < a.tmps.size := by rw [hO.st.size]; exact Nat.blt_eq.mp hdn
          rw [show ((a.put (some p.1) u).tmps.getD p.1 undef) = u by rw [show (a.put (some p.1) u).tmps = a.tmps.setIfInBounds p.1 u from rfl, getD_put hds, if_pos rfl]]
          exact hb.1
        · rw [if_neg e]
          have hlj' := hlj.resolve_left e
          have hjk : j < k := by rw [← hρ]; exact (List.getElem?_eq_some_iff.1 hqj).1
          have hoj : lops[j]? = some (lops[j]'(by omega)) := List.getElem?_eq_getElem (by omega)
          rw [put_get (fun e' => e (hnd j i _ o q.1 hoj h1 hjk hik (hdst j q _ hqj hoj) (by rw [hd, e'])))]
          have hst' : q.2.stable := by
            obtain ⟨q', f1, f2, f3, _⟩ := hobl j _ hjk hoj
            rw [hqj] at f1; cases f1; exact f3
          exact Role.holds_later hst' (hO.has j q hqj hlj') hlat
      · intro j q hqj hlj hal
        rw [hset] at hlj
        by_cases e : j = i
        · subst e
          rw [hp] at hqj; cases hqj
          rw [if_pos rfl]
          have := hb.2 hal
          have := hO.late.size
          omega
        · rw [if_neg e]
          have := hO.new j q hqj (hlj.resolve_left e) hal
          have := hlat.size
          omega
      · intro j j' q q' hq hq' hlj hlj' hal hal' hne
        rw [hset] at hlj hlj'
        by_cases e : j = i
        · subst e
          rw [hp] at hq; cases hq
          rw [if_pos rfl, if_neg (fun e => hne e.symm)]
          have := hb.2 hal
          have := hO.new j' q' hq' (hlj'.resolve_left (fun e => hne e.symm)) hal'
          omega
        · by_cases e' : j' = i
          · subst e'
            rw [hp] at hq'; cases hq'
            rw [if_pos rfl, if_neg e]
            have := hb.2 hal'
            have := hO.new j q hq (hlj.resolve_left e) hal
            omega
          · rw [if_neg e, if_neg e']
            exact hO.dist j j' q q' hq hq' (hlj.resolve_left e) (hlj'.resolve_left e') hal hal' hne

/-- A region that draws its order: k operations by what they look at, the others in their order. -/
theorem st_mix {id : Nat} {a : Act} {W : World} {κ : KV} (hm : P.follows .mixedOrders = true) (hB : mixB .any lops k = true) (hS : St ds w W n a κ l Φ) (hap : apartB κ (dstsOf lops k) = true) (hn : (dstsOf lops k).all (fun d => Nat.blt d n) = true)
    (h : Mix P r m lops.toArray Q ds w W n κ l Φ k [] lops) : (Code.region id lops.toArray true).wpIn (Fw r) m P Q a W := by
  refine wpIn_region_any hm ?_
  have hk : k ≤ lops.length := by
    simp only [mixB, Bool.and_eq_true] at hB
    exact Nat.ble_eq.mp hB.1.1
  have hB2 : (dstsOf lops k).Nodup := by simp only [mixB, Bool.and_eq_true] at hB; exact nodupB_spec hB.1.2
  have hB3 := hB
  simp only [mixB, Bool.and_eq_true] at hB3
  have hspec := okFrom_spec lops 0 hB3.2
  obtain ⟨ρs, e1, e2, e3, e4⟩ := Mix.roles k [] lops h
  have hpre : ∀ i o, lops[i]? = some o → i < k → okPre .any (dIdx 0 (lops.take k)) i o = true := fun i o ho hi => by
    have := hspec i o ho; rw [Nat.zero_add, if_pos hi] at this; exact this
  have hl : Later W { W with drawn := W.drawn + 1 } := ⟨rfl, rfl, rfl, Nat.le_refl _, fun _ _ => rfl⟩
  refine mix_any (W0 := W) (ρs := ρs) (md := .any) hk e1 hap e3 (fun d hd => List.all_eq_true.1 hn d hd) hpre (fun i o ho hi => by
    have := hspec i o ho; rw [Nat.zero_add, if_neg (by omega)] at this; exact this) ?_ (fun B hB => hS.lt hB) hS.fact hS.below.size e4 _ (fun _ => 0) _ a _ ?_ ?_ ⟨hS.grow hl, hl, by simp, ?_, ?_, ?_, ?_⟩
  · intro i j o o' d hi hj hik hjk hd hd'
    -- distinct positions have distinct temporaries
    have key : ∀ (xs : List Oper) (i j : Nat) (o o' : Oper), (xs.filterMap (·.dst)).Nodup → xs[i]? = some o → xs[j]? = some o' → o.dst = some d → o'.dst = some d → i = j := by
      intro xs
      induction xs with
      | nil => intro i j o o' _ h; simp at h
      | cons x xs ih =>
        intro i j o o' hN h1 h2 h3 h4
        have hN' : (xs.filterMap (·.dst)).Nodup := by
          cases hx : x.dst with
          | none => rw [List.filterMap_cons_none hx] at hN; exact hN
          | some y => rw [List.filterMap_cons_some hx] at hN; exact (List.nodup_cons.1 hN).2
        cases i with
        | zero =>
          cases j with
          | zero => rfl
          | succ j =>
            simp only [List.getElem?_cons_zero, Option.some.injEq] at h1
            subst h1
            rw [List.filterMap_cons_some h3] at hN
            exact absurd (List.mem_filterMap.2 ⟨o', List.mem_of_getElem? (by simpa using h2), h4⟩) (List.nodup_cons.1 hN).1
        | succ i =>
          cases j with
          | zero =>
            simp only [List.getElem?_cons_zero, Option.some.injEq] at h2
            subst h2
            rw [List.filterMap_cons_some h4] at hN
            exact absurd (List.mem_filterMap.2 ⟨o, List.mem_of_getElem? (by simpa using h1), h3⟩) (List.nodup_cons.1 hN).1
          | succ j => rw [ih i j o o' hN' (by simpa using h1) (by simpa using h2) h3 h4]
    exact key (lops.take k) i j o o' hB2 (by rw [List.getElem?_take_of_lt hik]; exact hi) (by rw [List.getElem?_take_of_lt hjk]; exact hj) hd hd'
  · have hz : ∀ N, N ≤ lops.length → cnt (Array.replicate lops.length false) N = N := by
      intro N
      induction N with
      | zero => intro _; rfl
      | succ N ih => intro hN; simp only [cnt]; rw [ih (by omega)]; simp [show N < lops.length by omega]
    simpa using hz lops.length (Nat.le_refl _)
  · intro i _; by_cases h : i < lops.length <;> simp [h]
  · intro i o h; by_cases hi : i < lops.length <;> simp [hi] at h
  · intro i p _ h; by_cases hi : i < lops.length <;> simp [hi] at h
  · intro i p _ h; by_cases hi : i < lops.length <;> simp [hi] at h
  · intro i j p p' _ _ h; by_cases hi : i < lops.length <;> simp [hi] at h

/-! ### what is asked of each -/
section
variable {ρ : List (Nat × Role)} {rest : List Oper} {d : Nat} {op : Op} {ty : TypeId} {pos : String} {af : Array Edge} {g : Option (Nat × Bool)} {v : Value}
theorem mx_v (hr : ∀ a W, St ds w W n a (kq (tl ⟨some d, op, ty, pos, af, g⟩) ρ ++ κ0) l Φ → Later W0 W → (execOp a.eval ⟨some d, op, ty, pos, af, g⟩).run P W = .ok (.value v) W)
    (K : Mix P r m ops Q ds w W0 n κ0 l Φ k ((d, .q v) :: ρ) rest) : Mix P r m ops Q ds w W0 n κ0 l Φ (k + 1) ρ (⟨some d, op, ty, pos, af, g⟩ :: rest) :=
  ⟨d, .q v, rfl, ⟨trivial, fun a W hS hL _ => .inl ⟨v, W, hr a W hS hL, Later.refl W, rfl⟩⟩, K⟩
/-- With what is known of the values of which not all is known. -/
theorem mx_vh (hr : ∀ a W, St ds w W n a (kq (tl ⟨some d, op, ty, pos, af, g⟩) ρ ++ κ0) l Φ → Later W0 W → Hd (tl ⟨some d, op, ty, pos, af, g⟩) ρ a W → (execOp a.eval ⟨some d, op, ty, pos, af, g⟩).run P W = .ok (.value v) W)
    (K : Mix P r m ops Q ds w W0 n κ0 l Φ k ((d, .q v) :: ρ) rest) : Mix P r m ops Q ds w W0 n κ0 l Φ (k + 1) ρ (⟨some d, op, ty, pos, af, g⟩ :: rest) :=
  ⟨d, .q v, rfl, ⟨trivial, fun a W hS hL hH => .inl ⟨v, W, hr a W hS hL hH, Later.refl W, rfl⟩⟩, K⟩
theorem exec_call {f : FuncId} {args : Array Operand} {vs : List Value} {tys : Array TypeId} {κ : KV} {a : Act} {W : World} (hf : Enters P f) (hS : St ds w W n a κ l Φ) (hx : evs κ args.toList = some vs) :
    (execOp a.eval ⟨some d, .call { callee := .value (.func f), args := args, argTypes := tys }, ty, pos, af, g⟩).run P W = .ok (.enter f vs.toArray) W := by
  have h1 : args.map a.eval = vs.toArray := by rw [← hS.evs hx, ← Array.toList_map]
  have h2 := hf vs.toArray W
  simp only [execOp, resolve, Act.eval, Deferred.ofValue]
  simp [invoke, h1, h2]
theorem mx_call {f : FuncId} {args : Array Operand} {vs : List Value} {tys : Array TypeId} (hf : Enters P f)
    (hx : evs (kq (tl ⟨some d, .call { callee := .value (.func f), args := args, argTypes := tys }, ty, pos, af, g⟩) ρ ++ κ0) args.toList = some vs)
    (hc : ∀ a W, St ds w W n a (kq (tl ⟨some d, .call { callee := .value (.func f), args := args, argTypes := tys }, ty, pos, af, g⟩) ρ ++ κ0) l Φ → Later W0 W → Ret P f vs W (fun u _ => u = v))
    (K : Mix P r m ops Q ds w W0 n κ0 l Φ k ((d, .q v) :: ρ) rest) : Mix P r m ops Q ds w W0 n κ0 l Φ (k + 1) ρ (⟨some d, .call { callee := .value (.func f), args := args, argTypes := tys }, ty, pos, af, g⟩ :: rest) :=
  ⟨d, .q v, rfl, ⟨trivial, fun a W hS hL _ => .inr ⟨f, vs.toArray, exec_call hf hS hx, Calls.mono (hc a W hS hL) fun e W' ⟨u, he, hb, hu⟩ => ⟨u, he, And.intro hb hu⟩⟩⟩, K⟩
/-- A call of which only so much is known. -/
theorem mx_call_l {f : FuncId} {args : Array Operand} {vs : List Value} {tys : Array TypeId} (R : Value → World → Prop) (hst : ∀ u W W', R u W → Later W W' → R u W') (hf : Enters P f)
    (hx : evs (kq (tl ⟨some d, .call { callee := .value (.func f), args := args, argTypes := tys }, ty, pos, af, g⟩) ρ ++ κ0) args.toList = some vs)
    (hc : ∀ a W, St ds w W n a (kq (tl ⟨some d, .call { callee := .value (.func f), args := args, argTypes := tys }, ty, pos, af, g⟩) ρ ++ κ0) l Φ → Later W0 W → Ret P f vs W R)
    (K : Mix P r m ops Q ds w W0 n κ0 l Φ k ((d, .l R) :: ρ) rest) : Mix P r m ops Q ds w W0 n κ0 l Φ (k + 1) ρ (⟨some d, .call { callee := .value (.func f), args := args, argTypes := tys }, ty, pos, af, g⟩ :: rest) :=
  ⟨d, .l R, rfl, ⟨hst, fun a W hS hL _ => .inr ⟨f, vs.toArray, exec_call hf hS hx, Calls.mono (hc a W hS hL) fun e W' ⟨u, he, hb, hu⟩ => ⟨u, he, And.intro hb hu⟩⟩⟩, K⟩
theorem mx_callv {f : FuncId} {t : Tmp} {args : Array Operand} {vs : List Value} {fi cap : Array Value} {tys : Array TypeId}
    (ht : lk (kq (tl ⟨some d, .call { callee := .value (.tmp t), args := args, argTypes := tys }, ty, pos, af, g⟩) ρ ++ κ0) t = some (.func (.func f) fi cap)) (hf : Enters P f)
    (hx : evs (kq (tl ⟨some d, .call { callee := .value (.tmp t), args := args, argTypes := tys }, ty, pos, af, g⟩) ρ ++ κ0) args.toList = some vs)
    (hc : ∀ a W, St ds w W n a (kq (tl ⟨some d, .call { callee := .value (.tmp t), args := args, argTypes := tys }, ty, pos, af, g⟩) ρ ++ κ0) l Φ → Later W0 W → Ret P f (fi.toList ++ vs ++ cap.toList) W (fun u _ => u = v))
    (K : Mix P r m ops Q ds w W0 n κ0 l Φ k ((d, .q v) :: ρ) rest) : Mix P r m ops Q ds w W0 n κ0 l Φ (k + 1) ρ (⟨some d, .call { callee := .value (.tmp t), args := args, argTypes := tys }, ty, pos, af, g⟩ :: rest) := by
  refine ⟨d, .q v, rfl, ⟨trivial, fun a W hS hL _ => .inr ⟨f, (fi.toList ++ vs ++ cap.toList).toArray, ?_, Calls.mono (hc a W hS hL) fun e W' ⟨u, he, hb, hu⟩ => ⟨u, he, And.intro hb hu⟩⟩⟩, K⟩
  have h1 : args.map a.eval = vs.toArray := by rw [← hS.evs hx, ← Array.toList_map]
  have h3 : a.eval (.tmp t) = .func (.func f) fi cap := hS.ev ht
  simp only [execOp, resolve, h3, Deferred.ofValue]
  have h2 := hf (fi ++ (vs.toArray ++ cap)) W
  simp [invoke, h1, h2]
theorem mx_alloc_agg {T : TypeId} {cs : List Value} (hz : ∀ w, (zeroValue T).run P w = .ok (.agg cs.toArray) w)
    (K : Mix P r m ops Q ds w W0 n κ0 l Φ k ((d, .al (fun b => .pointer (some ⟨b, 0, none⟩)) cs T) :: ρ) rest) : Mix P r m ops Q ds w W0 n κ0 l Φ (k + 1) ρ (⟨some d, .alloc T, ty, pos, af, g⟩ :: rest) := by
  refine ⟨d, .al (fun b => .pointer (some ⟨b, 0, none⟩)) cs T, rfl, ⟨trivial, fun a W hS hL _ => .inl ⟨.pointer (some ⟨W.heap.size, 0, none⟩), W.alloc (.cells cs.toArray T), ?_, (Below.refl _ _).alloc (Nat.le_refl _) _, W.heap.size, rfl, Nat.le_refl _, World.alloc_heap_new W _⟩⟩, K⟩
  simp only [execOp]
  simp [Instr.alloc, hz W, newVar, newRow, Value.cells, newObj, Sem.run]
theorem mx_alloc_one {T : TypeId} (hz : ∀ w, (zeroValue T).run P w = .ok v w) (hv : v.cells = #[v])
    (K : Mix P r m ops Q ds w W0 n κ0 l Φ k ((d, .al (fun b => .pointer (some ⟨b, 0, none⟩)) [v] T) :: ρ) rest) : Mix P r m ops Q ds w W0 n κ0 l Φ (k + 1) ρ (⟨some d, .alloc T, ty, pos, af, g⟩ :: rest) := by
  refine ⟨d, .al (fun b => .pointer (some ⟨b, 0, none⟩)) [v] T, rfl, ⟨trivial, fun a W hS hL _ => .inl ⟨.pointer (some ⟨W.heap.size, 0, none⟩), W.alloc (.cells #[v] T), ?_, (Below.refl _ _).alloc (Nat.le_refl _) _, W.heap.size, rfl, Nat.le_refl _, World.alloc_heap_new W _⟩⟩, K⟩
  simp only [execOp]
  simp [Instr.alloc, hz W, newVar, newRow, hv, newObj, Sem.run]
theorem mx_end {lops : List Oper} (h : ∀ a W bs us, St ds w W n a (kall bs us 0 ρ ++ κ0) (ball bs 0 ρ ++ l) Φ → Later W0 W → lall us W 0 ρ → wpListIn (Fw r) m P ops Q lops a W) : Mix P r m ops Q ds w W0 n κ0 l Φ 0 ρ lops := h
end
end
end Go.Proofs.YtdnodlgebpnfoaaGreat
