/- What copying leans on: rows made in a region that draws its order; loops whose facts grow. -/
import Derived.Test.YtdnodlgebpnfoaaGreatKinds
namespace Go.Proofs.YtdnodlgebpnfoaaGreat
open Go Go.RowKit Go.Shelf Sw

section
variable {P : Program} {r : Option Nat} {m : Nat} {ops : Array Oper} {Q : Exit → Act → World → Prop} {ds : List Nat} {w W0 W : World} {n k d : Nat} {κ κ0 : KV} {l : List Blk} {Φ Ψ : World → Prop} {a : Act}
  {ρ : List (Nat × Role)} {rest : List Oper} {op : Op} {ty T E tx e' : TypeId} {pos : String} {af : Array Edge} {g : Option (Nat × Bool)} {v : Value} {F : Nat → Prop} {s : SV}
/-- A temporary is what it is. -/
theorem St.see (hS : St ds w W n a κ l Φ) (t : Nat) : St ds w W n a ((t, a.tmps.getD t undef) :: κ) l Φ := by
  refine ⟨hS.size, hS.defers, fun t' u ht => ?_, hS.below, hS.blk, hS.old, hS.dist, hS.fact⟩
  rcases lk_put ht with ⟨rfl, rfl⟩ | ⟨_, hu⟩
  · rfl
  · exact hS.get _ _ hu
theorem mx_l (R : Value → World → Prop) (hst : ∀ u W W', R u W → Later W W' → R u W')
    (hy : ∀ a W, St ds w W n a (kq (tl ⟨some d, op, ty, pos, af, g⟩) ρ ++ κ0) l Φ → Later W0 W → Hd (tl ⟨some d, op, ty, pos, af, g⟩) ρ a W → ∃ u W1, (execOp a.eval ⟨some d, op, ty, pos, af, g⟩).run P W = .ok (.value u) W1 ∧ Later W W1 ∧ R u W1)
    (K : Mix P r m ops Q ds w W0 n κ0 l Φ k ((d, .l R) :: ρ) rest) : Mix P r m ops Q ds w W0 n κ0 l Φ (k + 1) ρ (⟨some d, op, ty, pos, af, g⟩ :: rest) :=
  ⟨d, .l R, rfl, ⟨hst, fun a W hS hL hH => by
    obtain ⟨u, W1, h1, h2, h3⟩ := hy a W hS hL hH
    exact .inl ⟨u, W1, h1, h2, h3⟩⟩, K⟩
/-- A row without elements. -/
theorem mx_bs0 (hrun : ∀ W, (Instr.buildSlice T 0 #[]).run P W = .ok (.slice (some ⟨W.heap.size, 0, none⟩) 0 0) (W.alloc (.cells #[] E)))
    (K : Mix P r m ops Q ds w W0 n κ0 l Φ k ((d, .al (fun b => .slice (some ⟨b, 0, none⟩) 0 0) [] E) :: ρ) rest) : Mix P r m ops Q ds w W0 n κ0 l Φ (k + 1) ρ (⟨some d, .buildSlice T 0 #[], ty, pos, af, g⟩ :: rest) := by
  refine ⟨d, .al (fun b => .slice (some ⟨b, 0, none⟩) 0 0) [] E, rfl, ⟨trivial, fun a W hS hL _ => .inl ⟨.slice (some ⟨W.heap.size, 0, none⟩) 0 0, W.alloc (.cells #[] E), ?_, (Below.refl _ _).alloc (Nat.le_refl _) _, W.heap.size, rfl, Nat.le_refl _, World.alloc_heap_new W _⟩⟩, K⟩
  simp only [execOp]
  rw [show Array.map (fun (x : Nat × Operand) => (x.fst, a.eval x.snd)) #[] = #[] from Array.map_empty, Sem.run_bind, hrun W]; rfl
theorem src_sl {xs : List Int} (hk : P.underlying tx = some (.slice e')) (h : Sl kInt F W s xs) : Src P 1 tx (.slice s.a xs.length s.c) xs.length (xs.map fun x => .int .i64 x) W := by
  cases hx : s.a with
  | none =>
    have h0 : xs = [] := by
      cases xs with
      | nil => rfl
      | cons x xs => obtain ⟨ad, _, e, _⟩ := h.2.2 0 (by simp); rw [hx] at e; cases e
    subst h0
    exact Src.ofNil (P := P) W hk s.c
  | some ad =>
    refine Src.ofSlice W hk ad xs.length s.c _ (by simp) (fun j u hj => ?_) (fun u hu => ?_)
    · rw [List.getElem?_map] at hj
      cases hq : xs[j]? with
      | none => rw [hq] at hj; cases hj
      | some x =>
        rw [hq] at hj
        have hjl := (List.getElem?_eq_some_iff.1 hq).1
        obtain ⟨ad', h1, h2⟩ := h.int hjl
        rw [hx] at h1; cases h1
        rw [Nat.mul_one] at h2
        have e : ix xs j = x := by simp [ix, List.getD_eq_getElem?_getD, hq]
        rw [h2, e]; simpa using hj
    · obtain ⟨x, _, rfl⟩ := List.mem_map.1 hu; rfl
/-- A list of numbers in new memory. -/
theorem sl_block {W : World} {b cap : Nat} {xs : List Int} {cs : List Value} {T : TypeId} (hb : W.heap[b]? = some (.cells cs.toArray T (0, 0))) (hcs : ∀ (j : Nat) (x : Int), xs[j]? = some x → cs[j]? = some (Value.int .i64 x)) (hc : xs.length ≤ cap) (hbd : xs.length * 8 ≤ 140737488355328) (hF : F b) :
    Sl kInt F W ⟨some ⟨b, 0, none⟩, cap⟩ xs :=
  ⟨hc, hbd, fun j hj => ⟨⟨b, 0, none⟩, [.int .i64 xs[j]], rfl, hF, rfl, fun i u hu => by
    have hi : i = 0 := by have := (List.getElem?_eq_some_iff.1 hu).1; simpa using this
    subst hi
    have h1 := hcs j xs[j] (by simp)
    simp only [List.getElem?_cons_zero, Option.some.injEq] at hu
    subst hu
    rw [show j * kInt.sz + 0 = j from Nat.mul_one j, add_off, Nat.zero_add]
    simp [World.cell?, hb, h1]⟩⟩
theorem runs_app0 {b : Nat} {xs : List Int} (hT : P.underlying T = some (.slice E)) (hi : AI P E 1 8) (hk : P.underlying tx = some (.slice e')) (hb : W.heap[b]? = some (.cells #[] E (0, 0))) (hL : Later W0 W) (hx : Sl kInt F W s xs) (hl : xs.length ≤ 1000) :
    ∃ u W1, (Builtin.append_ #[T, tx] ty #[.slice (some ⟨b, 0, none⟩) 0 0, .slice s.a xs.length s.c]).run P W = .ok u W1 ∧ Later W W1 ∧ RSl kInt W0.heap.size xs u W1 := by
  obtain ⟨i, z, h1, h2, h3, h4, h5, h6⟩ := hi
  have hs := src_sl (P := P) hk hx
  by_cases h0 : xs = []
  · subst h0
    refine ⟨.slice (some ⟨b, 0, none⟩) 0 0, W, ?_, Later.refl W, ⟨some ⟨b, 0, none⟩, 0⟩, rfl, Nat.le_refl _, by simp, fun j hj => by simp at hj⟩
    rcases hs.kind with ⟨e', he⟩ | he <;> simp [Builtin.append_, run_underlying hT, run_underlying he, sizeOf, typeInfo, h1, Builtin.lenOf, h3, storeCells, Addr.add] <;> first | done | (have := hs.cells; simp only [List.length_nil, List.map_nil] at this; simp [this, storeCells]; done) | rfl
  · have hp : 0 < xs.length := List.length_pos_iff.2 h0
    have hs' : Src P i.size tx (.slice s.a xs.length s.c) xs.length (xs.map fun x => .int .i64 x) W := by rw [h3]; exact hs
    have hfit : Builtin.nextslicecap (0 + xs.length) 0 * i.bytes ≤ 281474976710656 := growslice_fits (by omega) (by rw [h4]; omega)
    have hr := run_append_grow_src (P := P) W T tx ty E i z hT h1 h2 (some ⟨b, 0, none⟩) 0 0 [] (run_firstCells_some (P := P) W.drew i.size 0 ⟨b, 0, none⟩ 0 0 [] (by simp) (by simp)) _ _ _ hs' (by omega) (by omega) hfit
    refine ⟨_, _, hr, ?_, ⟨some ⟨W.heap.size, 0, none⟩, grownCap W (0 + xs.length) 0 E⟩, ?_, ?_⟩
    · exact (⟨rfl, rfl, rfl, Nat.le_refl _, fun _ _ => rfl⟩ : Below W.heap.size W W.drew).alloc (Nat.le_refl _) _
    · simp
    · have hge := grownCap_ge W (0 + xs.length) 0 E
      refine sl_block (cs := (([] ++ xs.map fun x => Value.int .i64 x).toArray ++ Builtin.zeroCells z.cells (grownCap W (0 + xs.length) 0 E - (0 + xs.length))).toList) (T := E) (by rw [Array.toArray_toList]; exact World.alloc_heap_new W.drew _) (fun j x hj => ?_) (by omega) (by omega) (by have := hL.size; exact this)
      have hjl := (List.getElem?_eq_some_iff.1 hj).1
      simp only [List.nil_append, Array.toList_append]
      rw [List.getElem?_append_left (by simpa using hjl), List.getElem?_map, hj]; rfl
theorem Hd.al {ts : List Nat} {t : Nat} {f : Nat → Value} {cs : List Value} (hH : Hd ts ρ a W) (ht : inL ts t = true) (hm : (t, Role.al f cs E) ∈ ρ) : ∃ b, a.tmps.getD t undef = f b ∧ W.heap[b]? = some (.cells cs.toArray E (0, 0)) := hH _ hm ht
theorem Hd.lo {ts : List Nat} {t : Nat} {R : Value → World → Prop} (hH : Hd ts ρ a W) (ht : inL ts t = true) (hm : (t, Role.l R) ∈ ρ) : R (a.tmps.getD t undef) W := (hH _ hm ht).choose_spec
/-- A copy of a list that came in, appended to a row without elements. -/
theorem mx_app0 {tys : Array TypeId} {t t' : Nat} {xs : List Int} (hty : tys = #[T, tx]) (hT : P.underlying T = some (.slice E)) (hi : AI P E 1 8) (hk : P.underlying tx = some (.slice e')) (hm : (t, Role.al (fun b => .slice (some ⟨b, 0, none⟩) 0 0) [] E) ∈ ρ)
    (hx : lk (kq [t, t'] ρ ++ κ0) t' = some (.slice s.a xs.length s.c)) (hsl : ∀ W, Later W0 W → Sl kInt F W s xs) (hl : xs.length ≤ 1000)
    (K : Mix P r m ops Q ds w W0 n κ0 l Φ k ((d, .l (RSl kInt W0.heap.size xs)) :: ρ) rest) : Mix P r m ops Q ds w W0 n κ0 l Φ (k + 1) ρ (⟨some d, .call { callee := .builtin .append, args := #[.tmp t, .tmp t'], argTypes := tys }, ty, pos, af, g⟩ :: rest) := by
  subst hty
  refine mx_l _ (fun u W W' h hl => RSl.stable u W W' h hl) (fun a W hS hL hH => ?_) K
  have htl : tl ⟨some d, .call { callee := .builtin .append, args := #[.tmp t, .tmp t'], argTypes := #[T, tx] }, ty, pos, af, g⟩ = [t, t'] := rfl
  rw [htl] at hS hH
  obtain ⟨b, e1, e2⟩ := Hd.al hH (by simp [inL]) hm
  obtain ⟨u, W1, h1, h2, h3⟩ := runs_app0 (P := P) (ty := ty) (W0 := W0) hT hi hk e2 hL (hsl W hL) hl
  refine ⟨u, W1, ?_, h2, h3⟩
  have e3 : a.eval (.tmp t) = .slice (some ⟨b, 0, none⟩) 0 0 := e1
  have e4 : a.eval (.tmp t') = .slice s.a xs.length s.c := hS.ev hx
  simp only [execOp]
  simp [resolve, invoke, builtin, e3, e4, h1]
/-- A table's two axes. -/
def RAx (m0 : Nat) (X Y : List Int) (u : Value) (W : World) : Prop := ∃ s1 s2 : SV, u = .agg #[.slice s1.a X.length s1.c, .slice s2.a Y.length s2.c, .slice none 0 0] ∧ Sl kInt (fun k => m0 ≤ k) W s1 X ∧ Sl kInt (fun k => m0 ≤ k) W s2 Y
theorem mx_ax {t t' : Nat} {X Y : List Int} (hrun : ∀ (A1 A2 : Option Addr) (n1 c1 n2 c2 : Nat) (W : World), (Instr.build T [(0, .slice A1 n1 c1), (1, .slice A2 n2 c2)].toArray).run P W = .ok (.agg #[.slice A1 n1 c1, .slice A2 n2 c2, .slice none 0 0]) W)
    (hm : (t, Role.l (RSl kInt W0.heap.size X)) ∈ ρ) (hm' : (t', Role.l (RSl kInt W0.heap.size Y)) ∈ ρ)
    (K : Mix P r m ops Q ds w W0 n κ0 l Φ k ((d, .l (RAx W0.heap.size X Y)) :: ρ) rest) : Mix P r m ops Q ds w W0 n κ0 l Φ (k + 1) ρ (⟨some d, .build T #[(0, .tmp t), (1, .tmp t')], ty, pos, af, g⟩ :: rest) := by
  refine mx_l _ ?_ (fun a W hS hL hH => ?_) K
  · rintro u W W' ⟨s1, s2, e, h1, h2⟩ hl
    exact ⟨s1, s2, e, h1.move fun k _ hk => hl.block k hk, h2.move fun k _ hk => hl.block k hk⟩
  · have hs : Op.operands (.build T #[(0, .tmp t), (1, .tmp t')]) = #[.tmp t, .tmp t'] := rfl
    have htl : tl ⟨some d, .build T #[(0, .tmp t), (1, .tmp t')], ty, pos, af, g⟩ = [t, t'] := by simp [tl, hs]
    rw [htl] at hS hH
    obtain ⟨s1, e1, h1⟩ := Hd.lo hH (by simp [inL]) hm
    obtain ⟨s2, e2, h2⟩ := Hd.lo hH (by simp [inL]) hm'
    have e3 : a.eval (.tmp t) = .slice s1.a X.length s1.c := e1
    have e4 : a.eval (.tmp t') = .slice s2.a Y.length s2.c := e2
    refine ⟨_, W, ?_, Later.refl W, s1, s2, rfl, h1, h2⟩
    simp only [execOp]
    have hr := hrun s1.a s2.a X.length s1.c Y.length s2.c W
    simp [e3, e4, hr]
/-- A row of one list that has just been made. -/
def RBox (m0 : Nat) (E : TypeId) (xs : List Int) (u : Value) (W : World) : Prop := ∃ (b : Nat) (s : SV), u = .slice (some ⟨b, 0, none⟩) 1 1 ∧ W.heap[b]? = some (.cells #[.slice s.a xs.length s.c] E (0, 0)) ∧ Sl kInt (fun k => m0 ≤ k) W s xs
theorem mx_box1 {t : Nat} {xs : List Int} (hrun : ∀ (A : Option Addr) (n c : Nat) (W : World), (Instr.buildSlice T 1 [(0, .slice A n c)].toArray).run P W = .ok (.slice (some ⟨W.heap.size, 0, none⟩) 1 1) (W.alloc (.cells #[Value.slice A n c] E)))
    (hm : (t, Role.l (RSl kInt W0.heap.size xs)) ∈ ρ)
    (K : Mix P r m ops Q ds w W0 n κ0 l Φ k ((d, .l (RBox W0.heap.size E xs)) :: ρ) rest) : Mix P r m ops Q ds w W0 n κ0 l Φ (k + 1) ρ (⟨some d, .buildSlice T 1 #[(0, .tmp t)], ty, pos, af, g⟩ :: rest) := by
  refine mx_l _ ?_ (fun a W hS hL hH => ?_) K
  · rintro u W W' ⟨b, s, e, h1, h2⟩ hl
    exact ⟨b, s, e, by rw [hl.block b (Array.getElem?_eq_some_iff.1 h1).1]; exact h1, h2.move fun k _ hk => hl.block k hk⟩
  · have hs : Op.operands (.buildSlice T 1 #[(0, .tmp t)]) = #[.tmp t] := rfl
    have htl : tl ⟨some d, .buildSlice T 1 #[(0, .tmp t)], ty, pos, af, g⟩ = [t] := by simp [tl, hs]
    rw [htl] at hS hH
    obtain ⟨s1, e1, h1⟩ := Hd.lo hH (by simp [inL]) hm
    have e3 : a.eval (.tmp t) = .slice s1.a xs.length s1.c := e1
    have hb : Below W.heap.size W (W.alloc (.cells #[Value.slice s1.a xs.length s1.c] E)) := (Below.refl _ _).alloc (Nat.le_refl _) _
    refine ⟨.slice (some ⟨W.heap.size, 0, none⟩) 1 1, W.alloc (.cells #[Value.slice s1.a xs.length s1.c] E), ?_, hb, W.heap.size, s1, rfl, World.alloc_heap_new W _, h1.move fun k _ hk => hb.block k hk⟩
    simp only [execOp]
    have hr := hrun s1.a xs.length s1.c W
    simp [e3, hr]
theorem allc {α : Type} {x : α} {xs : List α} {p : α → Bool} (h : p x = true) (hs : xs.all p = true) : (x :: xs).all p = true := by rw [List.all_cons, h, hs]; rfl
theorem OwnR.one1 {v : Value} {N sz : Nat} {xs cs : List Value} (h : OwnR v N sz xs cs) : v.oneCell' = true := by
  rcases h.2 with ⟨rfl, _⟩ | ⟨b, cap, rfl, _⟩ <;> rfl
theorem OwnR.cells1 {v : Value} {N sz : Nat} {xs cs : List Value} (h : OwnR v N sz xs cs) : v.cells.toList = [v] := by
  rcases h.2 with ⟨rfl, _⟩ | ⟨b, cap, rfl, _⟩ <;> rfl
/-- The rows of a table, as they are copied. -/
abbrev eRow (y : SV × List Int) : List Value := [.slice y.1.a y.2.length y.1.c]
theorem sl_rows {ys : List (SV × List Int)} (h : Sl (kOf eRow 1 24 (by decide) (fun _ => rfl)) F W s ys) (hy : ∀ y ∈ ys, Sl kInt F W y.1 y.2) : Sl kRow F W s (ys.map Prod.snd) := by
  refine ⟨by simpa using h.1, by rw [List.length_map]; exact h.2.1, fun j hj => ?_⟩
  have hj' : j < ys.length := by simpa using hj
  obtain ⟨ad, cs, h1, h2, h3, h4⟩ := h.2.2 j hj'
  refine ⟨ad, cs, h1, h2, ⟨ys[j].1, ?_, ?_⟩, h4⟩
  · have h3' : cs = eRow ys[j] := h3
    rw [h3', List.getElem_map]
  · rw [List.getElem_map]; exact hy _ (List.getElem_mem hj')
/-- Numbers do not lie where none are. -/
theorem Sl.apart {b : Nat} {xs : List Int} {cs : List Value} (h : Sl kInt F W s xs) (hb : W.heap[b]? = some (.cells cs.toArray T (0, 0))) (hn : ∀ (o : Nat) (z : Int), cs[o]? ≠ some (.int .i64 z)) : Sl kInt (fun k => F k ∧ k ≠ b) W s xs := by
  refine ⟨h.1, h.2.1, fun j hj => ?_⟩
  obtain ⟨ad, cs', h1, h2, h3, h4⟩ := h.2.2 j hj
  refine ⟨ad, cs', h1, ⟨h2, fun e => ?_⟩, h3, h4⟩
  have h3' : cs' = [.int .i64 xs[j]] := h3
  subst h3'
  have h5 := h4 0 _ rfl
  obtain ⟨o, ho, hc⟩ := cells_of_cell h5
  rw [add_block, e, hb] at ho
  have : o = .cells cs.toArray T (0, 0) := (Option.some.inj ho).symm
  subst this
  unfold World.cell? at h5
  rw [add_block, e, hb] at h5
  simp only at h5
  split at h5 <;> first | (cases h5; done) | (simp only [List.getElem?_toArray] at h5; exact hn _ _ h5) | skip
theorem St.moreF {Ψ : World → Prop} (hS : St ds w W n a κ l Φ) {α : Type} {dk : Kd α} {xs : List α} (h : Sl dk F W s xs) (hF : ∀ k, F k → ∀ B ∈ l, k ≠ B.b) : St ds w W n a κ l (fun W => Φ W ∧ Sl dk F W s xs) :=
  hS.more fun W' ho _ => h.move fun k hk hlt' => ho.same k hlt' fun B hB e => hF k hk B hB e
/-- A loop whose facts hang on where it stands. -/
theorem st_loop3 {A : Code} {α : Type} (κI : α → KV) (lI : α → List Blk) (ΦI : α → World → Prop) (φ : α → Prop) (μ : α → Nat) (x0 : α) (hS : St ds w W n a (κI x0) (lI x0) (ΦI x0)) (h0 : φ x0)
    (body : ∀ x W a, φ x → St ds w W n a (κI x) (lI x) (ΦI x) → A.wpIn (Fw r) m P (Exit.then (fun a' W' => ∃ x', (φ x' ∧ μ x' < μ x) ∧ St ds w W' n a' (κI x') (lI x') (ΦI x')) Q) a W) : (Code.loop A).wpIn (Fw r) m P Q a W := by
  classical
  have mn : ∀ a W, (∃ k x, φ x ∧ St ds w W n a (κI x) (lI x) (ΦI x) ∧ μ x = k) → _ := fun a W h => exists_min (fun k => ∃ x, φ x ∧ St ds w W n a (κI x) (lI x) (ΦI x) ∧ μ x = k) h
  refine wpIn_loop (fun a W => ∃ x, φ x ∧ St ds w W n a (κI x) (lI x) (ΦI x)) (fun a W => if h : ∃ k x, φ x ∧ St ds w W n a (κI x) (lI x) (ΦI x) ∧ μ x = k then Classical.choose (mn a W h) else 0) ⟨x0, h0, hS⟩ ?_
  rintro a W ⟨x, hφ, hS⟩
  have hex : ∃ k x, φ x ∧ St ds w W n a (κI x) (lI x) (ΦI x) ∧ μ x = k := ⟨_, x, hφ, hS, rfl⟩
  obtain ⟨⟨x1, hφ1, hS1, hμ1⟩, _⟩ := Classical.choose_spec (mn a W hex)
  refine wpIn_mono (body x1 W a hφ1 hS1) ?_
  intro e a' W' hq
  cases e with
  | normal =>
    obtain ⟨x', ⟨hφ', hlt⟩, hS'⟩ := hq
    refine ⟨⟨x', hφ', hS'⟩, ?_⟩
    have hex' : ∃ k x, φ x ∧ St ds w W' n a' (κI x) (lI x) (ΦI x) ∧ μ x = k := ⟨_, x', hφ', hS', rfl⟩
    simp only [hex, hex', dif_pos]
    exact Nat.lt_of_le_of_lt ((Classical.choose_spec (mn a' W' hex')).2 _ ⟨x', hφ', hS', rfl⟩) (by rw [← hμ1]; exact hlt)
  | exit => exact hq
  | goto => exact hq
  | ret => exact hq
  | panic => exact hq
  | outgrown => exact hq
theorem st_loop4 {A : Code} {α : Type} (κv : α → KV) (κ0 : KV) (lf : List Blk → α → List Blk) (G : α → World → Prop) (φ : α → Prop) (μ : α → Nat) (x0 : α) (hS : St ds w W n a κ l (fun W => Φ W ∧ G x0 W)) (hκ : Sub (κv x0 ++ κ0) κ) (hl : lf l x0 = l) (h0 : φ x0)
    (body : ∀ x W a, φ x → St ds w W n a (κv x ++ κ0) (lf l x) (fun W => Φ W ∧ G x W) → A.wpIn (Fw r) m P (Exit.then (fun a' W' => ∃ x', (φ x' ∧ μ x' < μ x) ∧ St ds w W' n a' (κv x' ++ κ0) (lf l x') (fun W => Φ W ∧ G x' W)) Q) a W) : (Code.loop A).wpIn (Fw r) m P Q a W :=
  st_loop3 (fun x => κv x ++ κ0) (lf l) (fun x W => Φ W ∧ G x W) φ μ x0 (by rw [hl]; exact hS.sub hκ) h0 body
end
section
variable {ds : List Nat} {w W : World} {n : Nat} {κ : KV} {l : List Blk} {Φ : World → Prop} {a : Act} {F F' : Nat → Prop} {m0 : Nat}
theorem St.more1 {s : SV} {B0 : Blk} {xs : List Int} (hS : St ds w W n a κ (B0 :: l) Φ) (hlt : ∀ B ∈ l, B.b < m0) (h : Sl kInt (fun k => m0 ≤ k) W s xs) (hn : ∀ (o : Nat) (z : Int), B0.cs[o]? ≠ some (.int .i64 z)) : St ds w W n a κ (B0 :: l) (fun W => Φ W ∧ Sl kInt (fun k => m0 ≤ k ∧ k ≠ B0.b) W s xs) :=
  hS.moreF (Ψ := fun _ => True) (h.apart (hS.blk B0 (List.mem_cons_self ..)) hn) fun k hk B hB => by
    rcases List.mem_cons.1 hB with rfl | hB
    · exact hk.2
    · have := hlt B hB; have := hk.1; omega
theorem noInt3 (o : Nat) (z : Int) : ([.slice none 0 0, .slice none 0 0, .slice none 0 0] : List Value)[o]? ≠ some (.int .i64 z) := by
  match o with
  | 0 => simp
  | 1 => simp
  | 2 => simp
  | o + 3 => simp
theorem src_box {P : Program} {tx e' E : TypeId} {b : Nat} {v : Value} (hk : P.underlying tx = some (.slice e')) (hc : W.heap[b]? = some (.cells #[v] E (0, 0))) (h1 : v.oneCell' = true) : Src P 1 tx (.slice (some ⟨b, 0, none⟩) 1 1) 1 [v] W :=
  Src.ofSlice W hk ⟨b, 0, none⟩ 1 1 [v] rfl (fun j u hj => by
    have hj0 : j = 0 := by have := (List.getElem?_eq_some_iff.1 hj).1; simpa using this
    subst hj0
    simp only [List.getElem?_cons_zero, Option.some.injEq] at hj; subst hj
    rw [add_off]; simp [World.cell?, hc]) (fun u hu => by rw [List.mem_singleton.1 hu]; exact h1)
theorem TabR.wide {V : TV} {t : Tab} (h : TabR F W V t) (hF : ∀ k, F k → F' k) : TabR F' W V t := ⟨h.1.wide (fun k hk _ => hF k hk) (fun _ _ => by decide), h.2.1.wide (fun k hk _ => hF k hk) (fun _ _ => by decide), h.2.2.wide (fun k hk _ => hF k hk) (fun _ _ => by decide)⟩
theorem RotR.wide {V : RV} {t : Rot} (h : RotR F W V t) (hF : ∀ k, F k → F' k) : RotR F' W V t :=
  ⟨h.hover.wide hF, h.ground.wide hF, h.level.wide hF, h.power.wide hF, h.never.wide hF, h.low.wide hF, h.high.wide hF, h.glide.wide hF⟩
/-- A table, a rotor that has been made since. -/
theorem St.moreTab {V : TV} {t : Tab} (hS : St ds w W n a κ l Φ) (hw : w.heap.size ≤ m0) (hlt : ∀ B ∈ l, B.b < m0) (h : TabR (fun k => m0 ≤ k) W V t) : St ds w W n a κ l (fun W => Φ W ∧ TabR (fun k => w.heap.size ≤ k) W V t) :=
  (hS.more (Ψ := fun W => TabR (fun k => m0 ≤ k) W V t) fun W' ho _ => h.move fun k hk hlt' => ho.same k hlt' fun B hB e => by have := hlt B hB; omega).less fun _ h => ⟨h.1, h.2.wide fun _ hk => Nat.le_trans hw hk⟩
theorem St.moreRot {V : RV} {t : Rot} (hS : St ds w W n a κ l Φ) (hw : w.heap.size ≤ m0) (hlt : ∀ B ∈ l, B.b < m0) (h : RotR (fun k => m0 ≤ k) W V t) : St ds w W n a κ l (fun W => Φ W ∧ RotR (fun k => w.heap.size ≤ k) W V t) :=
  (hS.more (Ψ := fun W => RotR (fun k => m0 ≤ k) W V t) fun W' ho _ => h.move fun k hk hlt' => ho.same k hlt' fun B hB e => by have := hlt B hB; omega).less fun _ h => ⟨h.1, h.2.wide fun _ hk => Nat.le_trans hw hk⟩
/-- A rotor that a call in a region that draws its order has made. -/
def RRot (m0 : Nat) (r : Rot) (v : Value) (W : World) : Prop := ∃ V : RV, v = .agg (rotC V r).toArray ∧ RotR (fun k => m0 ≤ k) W V r
theorem RRot.stable {m0 : Nat} {r : Rot} (u : Value) (W W' : World) (h : RRot m0 r u W) (hl : Later W W') : RRot m0 r u W' := by
  obtain ⟨V, e, h⟩ := h
  exact ⟨V, e, h.move fun k _ hk => hl.block k hk⟩
end
end Go.Proofs.YtdnodlgebpnfoaaGreat
