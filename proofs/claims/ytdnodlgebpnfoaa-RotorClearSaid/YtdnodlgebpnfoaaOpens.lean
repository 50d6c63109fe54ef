/- How the arguments' types read: closed facts on the program's types. -/
import Derived.Test.YtdnodlgebpnfoaaOpen
import Derived.Test.YtdnodlgebpnfoaaTyp
import Derived.Test.YtdnodlgebpnfoaaDesc
import Derived.Test.YtdnodlgebpnfoaaLift
namespace Go.Proofs.Ytdnodlgebpnfoaa
open Go Go.RowKit Go.Shelf Sw
set_option linter.unusedVariables false
set_option linter.unusedSimpArgs false
section
variable {H : Type} {enc : TypeId × Value → H}
theorem o_int : Opens enc Try.prog 3 kInt := opens_int Try.underlying3
theorem o_ints : Opens enc Try.prog 22 (kSl kInt (by decide)) := opens_slice _ Try.underlying22 (by kernel_rfl) (by kernel_rfl) o_int
theorem o_rows : Opens enc Try.prog 23 (kSl kRow (by decide)) := opens_slice _ Try.underlying23 (by kernel_rfl) (by kernel_rfl) o_ints
theorem o_tab : Opens enc Try.prog 25 kTab := opens_tab Try.underlying25 (by kernel_rfl) (by kernel_rfl) rfl rfl rfl o_ints o_ints o_rows
theorem o_span : Opens enc Try.prog 34 kSpan := opens_span Try.underlying34 (by kernel_rfl) (by kernel_rfl) rfl rfl o_int
theorem o_air : Opens enc Try.prog 36 kAir := opens_air Try.underlying36 (by kernel_rfl) (by kernel_rfl) rfl rfl rfl rfl o_span
theorem o_rot {W : World} {cs : List Value} (h : FieldAt enc Try.prog W 27 cs) : ∃ (V : RV) (r : Rot), cs = rotC V r ∧ RotR (fun _ => True) W V r := open_rot Try.underlying27 (by kernel_rfl) (by kernel_rfl) rfl o_tab o_int h
theorem o_load {W : World} {cs : List Value} (h : FieldAt enc Try.prog W 38 cs) : ∃ (p : Span) (rs : Int), cs = loadC p rs := by
  obtain ⟨fuel, d, ps, h, hw⟩ := h
  obtain ⟨css, hl, rfl, hf⟩ := open_struct (fs := [_, _]) Try.underlying38 (by kernel_rfl) (by kernel_rfl) h hw
  obtain ⟨a, b, rfl⟩ := len2 hl
  obtain ⟨x, q1⟩ := (hf 0 _ _ rfl rfl).open_ o_span
  obtain ⟨y, q2⟩ := (hf 1 _ _ rfl rfl).open_ o_int
  have q1' : a = spanC x := q1; have q2' : b = [.int .i64 y] := q2
  subst q1'; subst q2'
  exact ⟨x, y, rfl⟩
theorem o_sink {W : World} {cs : List Value} (h : FieldAt enc Try.prog W 54 cs) : ∃ (p q : Span), cs = [.int .i64 p.lo, .int .i64 p.hi, .int .i64 q.lo, .int .i64 q.hi] := by
  obtain ⟨fuel, d, ps, h, hw⟩ := h
  obtain ⟨css, hl, rfl, hf⟩ := open_struct (fs := [_, _]) Try.underlying54 (by kernel_rfl) (by kernel_rfl) h hw
  obtain ⟨a, b, rfl⟩ := len2 hl
  obtain ⟨x, q1⟩ := (hf 0 _ _ rfl rfl).open_ o_span
  obtain ⟨y, q2⟩ := (hf 1 _ _ rfl rfl).open_ o_span
  have q1' : a = spanC x := q1; have q2' : b = spanC y := q2
  subst q1'; subst q2'
  exact ⟨x, y, rfl⟩
theorem o_drop : Opens enc Try.prog 88 kDrop := by
  intro W fuel cs d ps h hw
  obtain ⟨css, hl, rfl, hf⟩ := open_struct (fs := [_, _, _]) Try.underlying88 (by kernel_rfl) (by kernel_rfl) h hw
  obtain ⟨a, b, c, rfl⟩ := len3 hl
  obtain ⟨x, q1⟩ := (hf 0 _ _ rfl rfl).open_ o_span
  obtain ⟨y, q2⟩ := (hf 1 _ _ rfl rfl).open_ o_span
  obtain ⟨z, q3⟩ := (hf 2 _ _ rfl rfl).open_ o_int
  have q1' : a = spanC x := q1; have q2' : b = spanC y := q2; have q3' : c = [.int .i64 z] := q3
  subst q1'; subst q2'; subst q3'
  exact ⟨⟨x, y, z⟩, rfl⟩
instance : Inhabited Drop := ⟨dropD⟩
theorem o_drops : Opens enc Try.prog 82 (kSl kDrop (by decide)) := opens_slice _ Try.underlying82 (by kernel_rfl) (by kernel_rfl) o_drop
theorem okWide_arr {P : Program} {w : World} {r : Reach} {base : Nat} {t : TypeId} {v : Value} {N : Nat} {e : TypeId} (ht : P.underlying t = some (.array N e)) (h : Value.okWide P w r base t v) : ∃ cs, v = .agg cs ∧ cs.size = P.cellsOf t := by
  simp only [Value.okWide, ht] at h
  obtain ⟨cs, h1, h2, _⟩ := h
  exact ⟨cs, h1, h2⟩
theorem arr_ints {P : Program} {t e : TypeId} {N : Nat} (ht : P.underlying t = some (.array N e)) (hc : P.cellsOf e = 1) (hct : P.cellsOf t = N) (he : P.underlying e = some (.int .i64)) {W : World} {cs : List Value} (h : FieldAt enc P W t cs) : ∃ f : Nat → Int, cs = (List.range N).map (fun i => .int .i64 (f i)) := by
  obtain ⟨fuel, d, ps, h, _⟩ := h
  obtain ⟨xs, m, _, _, hl, hxl, hf⟩ := DataW.trod_array ht h
  have each : ∀ i, i < N → ∃ z : Int, cs[i]? = some (.int .i64 z) := by
    intro i hi
    have h1 := hf i hi
    rw [hc, Nat.mul_one, List.getElem?_eq_getElem (by omega)] at h1
    obtain ⟨z, e1, _⟩ := DataW.trod_int he h1
    refine ⟨z, ?_⟩
    have e2 : ((cs.drop i).take 1)[0]? = some (Value.int .i64 z) := by rw [e1]; rfl
    rw [List.getElem?_take_of_lt (by omega), List.getElem?_drop] at e2
    simpa using e2
  obtain ⟨f, hf⟩ := Go.Deep.choose_lt each
  refine ⟨f, List.ext_getElem? fun i => ?_⟩
  by_cases hi : i < N
  · rw [hf i hi]; simp [hi]
  · rw [List.getElem?_eq_none (by omega), List.getElem?_eq_none (by simp; omega)]
theorem o_less {W : World} {cs : List Value} (h : FieldAt enc Try.prog W 46 cs) : ∃ (n : Nat → Int) (s p : Span), cs = lessC n s p := by
  obtain ⟨fuel, d, ps, h, hw⟩ := h
  obtain ⟨css, hl, rfl, hf⟩ := open_struct (fs := [_, _, _]) Try.underlying46 (by kernel_rfl) (by kernel_rfl) h hw
  obtain ⟨a, b, c, rfl⟩ := len3 hl
  obtain ⟨n, q1⟩ := arr_ints Try.underlying44 (by kernel_rfl) (by kernel_rfl) Try.underlying3 (hf 0 _ _ rfl rfl)
  obtain ⟨x, q2⟩ := (hf 1 _ _ rfl rfl).open_ o_span
  obtain ⟨y, q3⟩ := (hf 2 _ _ rfl rfl).open_ o_span
  have q2' : b = spanC x := q2; have q3' : c = spanC y := q3
  subst q1; subst q2'; subst q3'
  exact ⟨n, x, y, rfl⟩
theorem o_n3 {W : World} {cs : List Value} (h : FieldAt enc Try.prog W 62 cs) : ∃ n : Nat → Int, cs = [.int .i64 (n 0), .int .i64 (n 1), .int .i64 (n 2)] := arr_ints Try.underlying62 (by kernel_rfl) (by kernel_rfl) Try.underlying3 h
theorem any_slice {P : Program} {t e : TypeId} (ht : P.underlying t = some (.slice e)) {W : World} {cs : List Value} (h : FieldAt enc P W t cs) : ∃ (A : Option Addr) (n c : Nat), cs = [.slice A n c] := by
  obtain ⟨fuel, d, ps, h, _⟩ := h
  rcases Go.Deep.open_slice ht h with ⟨rfl, _⟩ | ⟨a, len, cap, m, n, D, Pl, rfl, _⟩
  · exact ⟨none, 0, 0, rfl⟩
  · exact ⟨_, _, _, rfl⟩
theorem len5 {α : Type} {l : List α} (h : l.length = 5) : ∃ a b c d e, l = [a, b, c, d, e] := by match l, h with | [a, b, c, d, e], _ => exact ⟨a, b, c, d, e, rfl⟩
theorem len8 {α : Type} {l : List α} (h : l.length = 8) : ∃ a b c d e f g i, l = [a, b, c, d, e, f, g, i] := by match l, h with | [a, b, c, d, e, f, g, i], _ => exact ⟨a, b, c, d, e, f, g, i, rfl⟩
theorem o_lift {W : World} {cs : List Value} (h : FieldAt enc Try.prog W 73 cs) : ∃ (V : RV) (r : Rot) (c : Nat → Int) (A : Air) (f : Nat → Int) (ha : Option Addr) (hn hc : Nat) (da : Option Addr) (dn dc : Nat), cs = liftC V r c A f ha hn hc da dn dc ∧ RotR (fun _ => True) W V r := by
  obtain ⟨fuel, d, ps, h, hw⟩ := h
  obtain ⟨css, hl, rfl, hf⟩ := open_struct (fs := [_, _, _, _, _]) Try.underlying73 (by kernel_rfl) (by kernel_rfl) h hw
  obtain ⟨c1, c2, c3, c4, c5, rfl⟩ := len5 hl
  obtain ⟨fu1, d1, ps1, h1, hw1⟩ := (hf 0 _ _ rfl rfl : FieldAt enc Try.prog W 67 c1)
  obtain ⟨css1, hl1, e1, hf1⟩ := open_struct (fs := [_, _, _, _, _, _, _, _]) Try.underlying67 (by kernel_rfl) (by kernel_rfl) h1 hw1
  obtain ⟨a1, a2, a3, a4, a5, a6, a7, a8, rfl⟩ := len8 hl1
  obtain ⟨V, r, q1, y⟩ := o_rot (hf1 0 _ _ rfl rfl)
  obtain ⟨z1, p1⟩ := (hf1 1 _ _ rfl rfl).open_ o_int
  obtain ⟨z2, p2⟩ := (hf1 2 _ _ rfl rfl).open_ o_int
  obtain ⟨z3, p3⟩ := (hf1 3 _ _ rfl rfl).open_ o_int
  obtain ⟨z4, p4⟩ := (hf1 4 _ _ rfl rfl).open_ o_int
  obtain ⟨z5, p5⟩ := (hf1 5 _ _ rfl rfl).open_ o_int
  obtain ⟨z6, p6⟩ := (hf1 6 _ _ rfl rfl).open_ o_int
  obtain ⟨z7, p7⟩ := (hf1 7 _ _ rfl rfl).open_ o_int
  obtain ⟨A, q2⟩ := (hf 1 _ _ rfl rfl).open_ o_air
  obtain ⟨fu3, d3, ps3, h3, hw3⟩ := (hf 2 _ _ rfl rfl : FieldAt enc Try.prog W 70 c3)
  obtain ⟨css3, hl3, e3, hf3⟩ := open_struct (fs := [_, _, _, _]) Try.underlying70 (by kernel_rfl) (by kernel_rfl) h3 hw3
  obtain ⟨g1, g2, g3, g4, rfl⟩ := len4 hl3
  obtain ⟨f1, r1⟩ := (hf3 0 _ _ rfl rfl).open_ o_int
  obtain ⟨f2, r2⟩ := (hf3 1 _ _ rfl rfl).open_ o_int
  obtain ⟨f3, r3⟩ := (hf3 2 _ _ rfl rfl).open_ o_int
  obtain ⟨ha, hn, hc, r4⟩ := any_slice Try.underlying68 (hf3 3 _ _ rfl rfl)
  obtain ⟨da, dn, dc, q4⟩ := any_slice Try.underlying71 (hf 3 _ _ rfl rfl)
  obtain ⟨f4, q5⟩ := (hf 4 _ _ rfl rfl).open_ o_int
  have p1' : a2 = [.int .i64 z1] := p1; have p2' : a3 = [.int .i64 z2] := p2; have p3' : a4 = [.int .i64 z3] := p3; have p4' : a5 = [.int .i64 z4] := p4; have p5' : a6 = [.int .i64 z5] := p5; have p6' : a7 = [.int .i64 z6] := p6; have p7' : a8 = [.int .i64 z7] := p7
  have q2' : c2 = airC A := q2; have r1' : g1 = [.int .i64 f1] := r1; have r2' : g2 = [.int .i64 f2] := r2; have r3' : g3 = [.int .i64 f3] := r3; have q5' : c5 = [.int .i64 f4] := q5
  subst q1; subst p1'; subst p2'; subst p3'; subst p4'; subst p5'; subst p6'; subst p7'; subst q2'; subst r1'; subst r2'; subst r3'; subst r4; subst q4; subst q5'; subst e1; subst e3
  exact ⟨V, r, fun i => [z1, z2, z3, z4, z5, z6, z7].getD i 0, A, fun i => [f1, f2, f3, f4].getD i 0, ha, hn, hc, da, dn, dc, rfl, y⟩
theorem o_cruise {W : World} {cs : List Value} (h : FieldAt enc Try.prog W 76 cs) : ∃ (sp tk : Int) (n : Nat → Int), cs = cruiseC sp tk n := by
  obtain ⟨fuel, d, ps, h, hw⟩ := h
  obtain ⟨css, hl, rfl, hf⟩ := open_struct (fs := [_, _, _]) Try.underlying76 (by kernel_rfl) (by kernel_rfl) h hw
  obtain ⟨a, b, c, rfl⟩ := len3 hl
  obtain ⟨x, q1⟩ := (hf 0 _ _ rfl rfl).open_ o_int
  obtain ⟨y, q2⟩ := (hf 1 _ _ rfl rfl).open_ o_int
  obtain ⟨n, q3⟩ := arr_ints Try.underlying74 (by kernel_rfl) (by kernel_rfl) Try.underlying3 (hf 2 _ _ rfl rfl)
  have q1' : a = [.int .i64 x] := q1; have q2' : b = [.int .i64 y] := q2
  subst q1'; subst q2'; subst q3
  exact ⟨x, y, n, rfl⟩
end
end Go.Proofs.Ytdnodlgebpnfoaa
