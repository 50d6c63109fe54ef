/- How what comes in reads: from data to lists, tables, rotors. -/
import Derived.Test.YtdnodlgebpnfoaaGreatKinds
import Derived.Deep.Slices
import Derived.SizedLaws
import Derived.OpenShut
namespace Go.Proofs.YtdnodlgebpnfoaaGreat
open Go Go.RowKit Go.Shelf Sw

section
variable {H : Type} {enc : TypeId × Value → H} {P : Program}
abbrev all_ (_ : Nat) : Bool := true
/-- What reads as data reads as a value of this kind. -/
def Opens (enc : TypeId × Value → H) (P : Program) (t : TypeId) {α : Type} (dk : Kd α) : Prop :=
  ∀ (W : World) (fuel : Nat) (cs : List Value) (d : DataW H) (ps : List MemPlace), DataW.trod enc P W 0 (fun _ => true) true fuel t cs = some (d, ps) → (∀ n ∈ d.weights P t, n ≤ reachBytes) → ∃ x : α, dk.R (fun _ => True) W x cs
theorem opens_int {t : TypeId} (ht : P.underlying t = some (.int .i64)) : Opens enc P t kInt := fun W fuel cs d ps h _ => by
  obtain ⟨n, e, _⟩ := DataW.trod_int ht h
  exact ⟨n, e⟩
theorem weights_all {e : TypeId} : ∀ {ds : List (DataW H)} {j : Nat} {d : DataW H}, ds[j]? = some d → ∀ n ∈ d.weights P e, n ∈ DataW.weightsAll P e ds
  | d0 :: ds, 0, d, hd, n, hn => by
    simp only [List.getElem?_cons_zero, Option.some.injEq] at hd; subst hd
    simp only [DataW.weightsAll, List.mem_append]; exact .inl hn
  | d0 :: ds, j + 1, d, hd, n, hn => by
    simp only [List.getElem?_cons_succ] at hd
    simp only [DataW.weightsAll, List.mem_append]; exact .inr (weights_all hd n hn)
  | [], _, _, hd, _, _ => by simp at hd
theorem opens_slice {α : Type} [Inhabited α] {dk : Kd α} {t e : TypeId} (h0 : 0 < dk.sz) (ht : P.underlying t = some (.slice e)) (hc : P.cellsOf e = dk.sz) (hb : P.bytesOf e = dk.by_) (he : Opens enc P e dk) : Opens enc P t (kSl dk h0) := by
  intro W fuel cs d ps h hw
  rcases Go.Deep.open_slice ht h with ⟨rfl, _⟩ | ⟨a, len, cap, m, n, D, Pl, rfl, _, hl, hm, hmm, hx, hel⟩
  · exact ⟨[], ⟨none, 0⟩, rfl, Nat.le_refl _, by simp, fun j hj => by simp at hj⟩
  · simp only [if_true] at hmm
    subst hmm
    obtain ⟨rfl, _⟩ := Prod.mk.inj hx
    have hwt : (len + (m - len)) * dk.by_ ≤ reachBytes := by
      refine hw _ ?_
      simp only [DataW.weights, ht, hb, List.length_map, List.length_range, List.mem_cons, true_or]
    have hrb : reachBytes < 2 ^ 47 := reachBytes_lt
    have each : ∀ i, i < len → ∃ x : α, ∃ cs', dk.R (fun _ => True) W x cs' ∧ ∀ k u, cs'[k]? = some u → W.cell? (a.add (i * dk.sz + k)) = some u := by
      intro i hi
      obtain ⟨cs', h1, h2⟩ := hel i (by omega)
      obtain ⟨x, hx⟩ := he W n cs' (D i) (Pl i) h2 (fun q hq => hw q (by
        simp only [DataW.weights, ht, List.mem_cons, List.mem_append]
        exact .inr (.inl (weights_all (j := i) (by simp [hi]) q hq))))
      refine ⟨x, cs', hx, fun k u hk => ?_⟩
      obtain ⟨_, h3, h4⟩ := World.cells?_some h1
      have hkl := (List.getElem?_eq_some_iff.1 hk).1
      have := h4 k (by omega)
      rw [add_add, hc] at this
      rw [this, hk]
    obtain ⟨f, hf⟩ := Go.Deep.choose_lt each
    refine ⟨(List.range len).map f, ⟨some a, m⟩, by simp, by simpa using hl, ?_, fun j hj => ?_⟩
    · rw [List.length_map, List.length_range]
      have : len * dk.by_ ≤ (len + (m - len)) * dk.by_ := Nat.mul_le_mul_right _ (by omega)
      omega
    · have hj' : j < len := by simpa using hj
      obtain ⟨cs', h1, h2⟩ := hf j hj'
      refine ⟨a, cs', rfl, trivial, ?_, h2⟩
      rw [List.getElem_map, List.getElem_range]; exact h1
/-! ### structs -/
def consec (P : Program) : Nat → List Field → Bool
  | _, [] => true
  | o, f :: fs => Nat.beq f.offset o && consec P (o + P.cellsOf f.type) fs
def total (P : Program) : List Field → Nat
  | [] => 0
  | f :: fs => P.cellsOf f.type + total P fs
/-- One field's cells. -/
def FieldAt (enc : TypeId × Value → H) (P : Program) (W : World) (t : TypeId) (cs : List Value) : Prop := ∃ (fuel : Nat) (d : DataW H) (ps : List MemPlace), DataW.trod enc P W 0 (fun _ => true) true fuel t cs = some (d, ps) ∧ ∀ n ∈ d.weights P t, n ≤ reachBytes
theorem split_fields {W : World} {Q : Field → List Value → Prop} : ∀ (fs : List Field) (o : Nat) (cs : List Value), consec P o fs = true → cs.length = o + total P fs → (∀ f ∈ fs, Q f ((cs.drop f.offset).take (P.cellsOf f.type))) →
    ∃ css : List (List Value), css.length = fs.length ∧ cs.drop o = css.flatten ∧ ∀ (i : Nat) (f : Field) (c : List Value), fs[i]? = some f → css[i]? = some c → Q f c
  | [], o, cs, _, hl, _ => ⟨[], rfl, by simp only [total] at hl; simp; omega, fun i f c h => by simp at h⟩
  | f :: fs, o, cs, hc, hl, hq => by
    simp only [consec, Bool.and_eq_true] at hc
    have ho := Nat.eq_of_beq_eq_true hc.1
    simp only [total] at hl
    obtain ⟨css, h1, h2, h3⟩ := split_fields (W := W) fs (o + P.cellsOf f.type) cs hc.2 (by omega) (fun g hg => hq g (List.mem_cons_of_mem _ hg))
    refine ⟨(cs.drop o).take (P.cellsOf f.type) :: css, by simp [h1], ?_, fun i g c hi hci => ?_⟩
    · rw [List.flatten_cons, ← h2, ← List.drop_drop, List.take_append_drop]
    · cases i with
      | zero =>
        simp only [List.getElem?_cons_zero, Option.some.injEq] at hi hci
        subst hi; subst hci
        have := hq f (List.mem_cons_self ..)
        rwa [ho] at this
      | succ i => exact h3 i g c (by simpa using hi) (by simpa using hci)
theorem open_struct {W : World} {t : TypeId} {fs : List Field} {fuel : Nat} {cs : List Value} {d : DataW H} {ps : List MemPlace} (ht : P.underlying t = some (.struct fs.toArray)) (hc : consec P 0 fs = true) (htot : P.cellsOf t = total P fs)
    (h : DataW.trod enc P W 0 (fun _ => true) true fuel t cs = some (d, ps)) (hw : ∀ n ∈ d.weights P t, n ≤ reachBytes) :
    ∃ css : List (List Value), css.length = fs.length ∧ cs = css.flatten ∧ ∀ (i : Nat) (f : Field) (c : List Value), fs[i]? = some f → css[i]? = some c → FieldAt enc P W f.type c := by
  obtain ⟨xs, n, _, hx, hl, hxl, hf⟩ := DataW.trod_struct ht h
  obtain ⟨rfl, _⟩ := Prod.mk.inj hx
  have key : ∀ f ∈ fs, FieldAt enc P W f.type ((cs.drop f.offset).take (P.cellsOf f.type)) := by
    intro f hfm
    obtain ⟨i, hi, rfl⟩ := List.mem_iff_getElem.1 hfm
    have h1 := hf i fs[i] (by simp [hi])
    have hix : i < xs.length := by rw [hxl]; simpa using hi
    rw [List.getElem?_eq_getElem hix] at h1
    refine ⟨n, xs[i].1, xs[i].2, h1, fun q hq => hw q ?_⟩
    simp only [DataW.weights, ht]
    exact DataW.weights_mem_each (j := i) (by simp [hi]) (by simp [hix]) q hq
  obtain ⟨css, h1, h2, h3⟩ := split_fields (W := W) (Q := fun f c => FieldAt enc P W f.type c) fs 0 cs hc (by omega) key
  exact ⟨css, h1, by simpa using h2, h3⟩
theorem FieldAt.open_ {W : World} {t : TypeId} {cs : List Value} {α : Type} {dk : Kd α} (h : FieldAt enc P W t cs) (ho : Opens enc P t dk) : ∃ x : α, dk.R (fun _ => True) W x cs := by
  obtain ⟨fuel, d, ps, h1, h2⟩ := h
  exact ho W fuel cs d ps h1 h2
theorem len1 {α : Type} {l : List α} (h : l.length = 1) : ∃ a, l = [a] := by match l, h with | [a], _ => exact ⟨a, rfl⟩
theorem len2 {α : Type} {l : List α} (h : l.length = 2) : ∃ a b, l = [a, b] := by match l, h with | [a, b], _ => exact ⟨a, b, rfl⟩
theorem len3 {α : Type} {l : List α} (h : l.length = 3) : ∃ a b c, l = [a, b, c] := by match l, h with | [a, b, c], _ => exact ⟨a, b, c, rfl⟩
theorem len4 {α : Type} {l : List α} (h : l.length = 4) : ∃ a b c d, l = [a, b, c, d] := by match l, h with | [a, b, c, d], _ => exact ⟨a, b, c, d, rfl⟩
theorem len10 {α : Type} {l : List α} (h : l.length = 10) : ∃ a b c d e f g i j k, l = [a, b, c, d, e, f, g, i, j, k] := by match l, h with | [a, b, c, d, e, f, g, i, j, k], _ => exact ⟨a, b, c, d, e, f, g, i, j, k, rfl⟩
/-- Kinds for tables, rotors, airs. -/
def kTab : Kd (TV × Tab) where
  sz := 3
  by_ := 72
  pos := by decide
  R := fun F W x cs => cs = tabC x.1 x.2 ∧ TabR F W x.1 x.2
  len := by rintro F W x cs ⟨rfl, _⟩; rfl
  move := by rintro F W W' x cs hm ⟨rfl, h⟩; exact ⟨rfl, h.move hm⟩
  wide := by rintro F F' W x cs hm ⟨rfl, h⟩; exact ⟨rfl, h.1.wide hm (fun _ _ => by decide), h.2.1.wide hm (fun _ _ => by decide), h.2.2.wide hm (fun _ _ => by decide)⟩
theorem opens_tab {t tx ty tv : TypeId} {n1 n2 n3 : Field} (ht : P.underlying t = some (.struct [n1, n2, n3].toArray)) (hc : consec P 0 [n1, n2, n3] = true) (htot : P.cellsOf t = total P [n1, n2, n3]) (e1 : n1.type = tx) (e2 : n2.type = ty) (e3 : n3.type = tv)
    (h1 : Opens enc P tx (kSl kInt (by decide))) (h2 : Opens enc P ty (kSl kInt (by decide))) (h3 : Opens enc P tv (kSl kRow (by decide))) : Opens enc P t kTab := by
  subst e1; subst e2; subst e3
  intro W fuel cs d ps h hw
  obtain ⟨css, hl, rfl, hf⟩ := open_struct ht hc htot h hw
  obtain ⟨a, b, c, rfl⟩ := len3 hl
  obtain ⟨X, sx, rfl, hX⟩ := (hf 0 _ _ rfl rfl).open_ h1
  obtain ⟨Y, sy, rfl, hY⟩ := (hf 1 _ _ rfl rfl).open_ h2
  obtain ⟨V, sv, rfl, hV⟩ := (hf 2 _ _ rfl rfl).open_ h3
  exact ⟨(⟨sx, sy, sv⟩, ⟨X, Y, V⟩), rfl, hX, hY, hV⟩
def kAir : Kd Air := kOf airC 8 64 (by decide) (fun _ => rfl)
theorem opens_span {t ti : TypeId} {n1 n2 : Field} (ht : P.underlying t = some (.struct [n1, n2].toArray)) (hc : consec P 0 [n1, n2] = true) (htot : P.cellsOf t = total P [n1, n2]) (e1 : n1.type = ti) (e2 : n2.type = ti) (h1 : Opens enc P ti kInt) : Opens enc P t kSpan := by
  subst e1
  intro W fuel cs d ps h hw
  obtain ⟨css, hl, rfl, hf⟩ := open_struct ht hc htot h hw
  obtain ⟨a, b, rfl⟩ := len2 hl
  obtain ⟨x, e1⟩ := (hf 0 _ _ rfl rfl).open_ h1
  obtain ⟨y, e3⟩ := (hf 1 _ _ rfl rfl).open_ (by rw [e2]; exact h1)
  exact ⟨⟨x, y⟩, by have e1' : a = [.int .i64 x] := e1; have e3' : b = [.int .i64 y] := e3; subst e1'; subst e3'; rfl⟩
theorem opens_air {t ts : TypeId} {n1 n2 n3 n4 : Field} (ht : P.underlying t = some (.struct [n1, n2, n3, n4].toArray)) (hc : consec P 0 [n1, n2, n3, n4] = true) (htot : P.cellsOf t = total P [n1, n2, n3, n4]) (e1 : n1.type = ts) (e2 : n2.type = ts) (e3 : n3.type = ts) (e4 : n4.type = ts)
    (h1 : Opens enc P ts kSpan) : Opens enc P t kAir := by
  subst e1
  intro W fuel cs d ps h hw
  obtain ⟨css, hl, rfl, hf⟩ := open_struct ht hc htot h hw
  obtain ⟨a, b, c, e, rfl⟩ := len4 hl
  obtain ⟨x1, r1⟩ := (hf 0 _ _ rfl rfl).open_ h1
  obtain ⟨x2, r2⟩ := (hf 1 _ _ rfl rfl).open_ (by rw [e2]; exact h1)
  obtain ⟨x3, r3⟩ := (hf 2 _ _ rfl rfl).open_ (by rw [e3]; exact h1)
  obtain ⟨x4, r4⟩ := (hf 3 _ _ rfl rfl).open_ (by rw [e4]; exact h1)
  refine ⟨⟨x1, x2, x3, x4⟩, ?_⟩
  have r1' : a = spanC x1 := r1; have r2' : b = spanC x2 := r2; have r3' : c = spanC x3 := r3; have r4' : e = spanC x4 := r4
  subst r1'; subst r2'; subst r3'; subst r4'; rfl
/-- A rotor's cells, and what lies behind them. -/
theorem open_rot {t tt ti : TypeId} {n1 n2 n3 n4 n5 n6 n7 n8 n9 n10 : Field} (ht : P.underlying t = some (.struct [n1, n2, n3, n4, n5, n6, n7, n8, n9, n10].toArray)) (hc : consec P 0 [n1, n2, n3, n4, n5, n6, n7, n8, n9, n10] = true) (htot : P.cellsOf t = total P [n1, n2, n3, n4, n5, n6, n7, n8, n9, n10])
    (he : [n1, n2, n3, n4, n5, n6, n7, n8, n9, n10].map (·.type) = [tt, tt, tt, tt, tt, tt, tt, tt, ti, ti]) (h1 : Opens enc P tt kTab) (h2 : Opens enc P ti kInt) {W : World} {cs : List Value} (h : FieldAt enc P W t cs) : ∃ (V : RV) (r : Rot), cs = rotC V r ∧ RotR (fun _ => True) W V r := by
  obtain ⟨fuel, d, ps, h, hw⟩ := h
  obtain ⟨css, hl, rfl, hf⟩ := open_struct ht hc htot h hw
  simp only [List.map_cons, List.map_nil, List.cons.injEq, and_true] at he
  obtain ⟨e1, e2, e3, e4, e5, e6, e7, e8, e9, e10⟩ := he
  obtain ⟨c1, c2, c3, c4, c5, c6, c7, c8, c9, c10, rfl⟩ := len10 hl
  obtain ⟨x1, q1, r1⟩ := (hf 0 _ _ rfl rfl).open_ (by rw [e1]; exact h1)
  obtain ⟨x2, q2, r2⟩ := (hf 1 _ _ rfl rfl).open_ (by rw [e2]; exact h1)
  obtain ⟨x3, q3, r3⟩ := (hf 2 _ _ rfl rfl).open_ (by rw [e3]; exact h1)
  obtain ⟨x4, q4, r4⟩ := (hf 3 _ _ rfl rfl).open_ (by rw [e4]; exact h1)
  obtain ⟨x5, q5, r5⟩ := (hf 4 _ _ rfl rfl).open_ (by rw [e5]; exact h1)
  obtain ⟨x6, q6, r6⟩ := (hf 5 _ _ rfl rfl).open_ (by rw [e6]; exact h1)
  obtain ⟨x7, q7, r7⟩ := (hf 6 _ _ rfl rfl).open_ (by rw [e7]; exact h1)
  obtain ⟨x8, q8, r8⟩ := (hf 7 _ _ rfl rfl).open_ (by rw [e8]; exact h1)
  obtain ⟨x9, r9⟩ := (hf 8 _ _ rfl rfl).open_ (by rw [e9]; exact h2)
  obtain ⟨x10, r10⟩ := (hf 9 _ _ rfl rfl).open_ (by rw [e10]; exact h2)
  have r9' : c9 = [.int .i64 x9] := r9; have r10' : c10 = [.int .i64 x10] := r10
  subst q1; subst q2; subst q3; subst q4; subst q5; subst q6; subst q7; subst q8; subst r9'; subst r10'
  exact ⟨⟨x1.1, x2.1, x3.1, x4.1, x5.1, x6.1, x7.1, x8.1⟩, ⟨x1.2, x2.2, x3.2, x4.2, x5.2, x6.2, x7.2, x8.2, x9, x10⟩, rfl, ⟨r1, r2, r3, r4, r5, r6, r7, r8⟩⟩
/-- From an argument of the row. -/
theorem field_arg {W : World} {ts : List TypeId} {ds : List (DataW H)} {j : Nat} {t : TypeId} {v : Value} {d : DataW H} {ps : List MemPlace} (hsz : (DataW.weightsEach P ts ds).all (· ≤ reachBytes) = true) (ht : ts[j]? = some t) (hd : ds[j]? = some d)
    (h : DataW.Trod enc P W 0 (fun _ => true) true t v d ps) : FieldAt enc P W t v.cells.toList := by
  obtain ⟨fuel, h⟩ := h
  exact ⟨fuel, d, ps, h, fun n hn => by simpa using List.all_eq_true.1 hsz n (DataW.weights_mem_each ht hd n hn)⟩
end
end Go.Proofs.YtdnodlgebpnfoaaGreat
