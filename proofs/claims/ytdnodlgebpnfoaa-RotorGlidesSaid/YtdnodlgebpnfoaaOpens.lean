/- How the arguments' types read: closed facts on the program's types. -/
import Derived.Test.YtdnodlgebpnfoaaOpen
import Derived.Test.YtdnodlgebpnfoaaTyp
namespace Go.Proofs.Ytdnodlgebpnfoaa
open Go Go.RowKit Go.Shelf Sw
set_option linter.unusedVariables false
set_option linter.unusedSimpArgs false
section
variable {H : Type} {enc : TypeId × Value → H}
theorem o_int : Opens enc Try.prog 3 kInt := opens_int Try.underlying3
theorem o_ints : Opens enc Try.prog 22 (kSl kInt (by decide)) := opens_slice _ Try.underlying22 (by kernel_rfl) (by kernel_rfl) o_int
theorem o_rows : Opens enc Try.prog 23 (kSl kRow (by decide)) := opens_slice _ Try.underlying23 (by kernel_rfl) (by kernel_rfl) o_ints
theorem o_tab : Opens enc Try.prog 25 kTab := opens_tab Try.underlying25 (by kernel_rfl) (by kernel_rfl) rfl rfl rfl o_ints o_ints o_rows
theorem o_span : Opens enc Try.prog 34 kSpan := opens_span Try.underlying34 (by kernel_rfl) (by kernel_rfl) rfl rfl o_int
theorem o_air : Opens enc Try.prog 36 kAir := opens_air Try.underlying36 (by kernel_rfl) (by kernel_rfl) rfl rfl rfl rfl o_span
theorem o_rot {W : World} {cs : List Value} (h : FieldAt enc Try.prog W 27 cs) : ∃ (V : RV) (r : Rot), cs = rotC V r ∧ RotR (fun _ => True) W V r := open_rot Try.underlying27 (by kernel_rfl) (by kernel_rfl) rfl o_tab o_int h
theorem o_load {W : World} {cs : List Value} (h : FieldAt enc Try.prog W 38 cs) : ∃ (p : Span) (rs : Int), cs = loadC p rs := by
  obtain ⟨fuel, d, ps, h, hw⟩ := h
  obtain ⟨css, hl, rfl, hf⟩ := open_struct (fs := [_, _]) Try.underlying38 (by kernel_rfl) (by kernel_rfl) h hw
  obtain ⟨a, b, rfl⟩ := len2 hl
  obtain ⟨x, q1⟩ := (hf 0 _ _ rfl rfl).open_ o_span
  obtain ⟨y, q2⟩ := (hf 1 _ _ rfl rfl).open_ o_int
  have q1' : a = spanC x := q1; have q2' : b = [.int .i64 y] := q2
  subst q1'; subst q2'
  exact ⟨x, y, rfl⟩
theorem o_sink {W : World} {cs : List Value} (h : FieldAt enc Try.prog W 54 cs) : ∃ (p q : Span), cs = [.int .i64 p.lo, .int .i64 p.hi, .int .i64 q.lo, .int .i64 q.hi] := by
  obtain ⟨fuel, d, ps, h, hw⟩ := h
  obtain ⟨css, hl, rfl, hf⟩ := open_struct (fs := [_, _]) Try.underlying54 (by kernel_rfl) (by kernel_rfl) h hw
  obtain ⟨a, b, rfl⟩ := len2 hl
  obtain ⟨x, q1⟩ := (hf 0 _ _ rfl rfl).open_ o_span
  obtain ⟨y, q2⟩ := (hf 1 _ _ rfl rfl).open_ o_span
  have q1' : a = spanC x := q1; have q2' : b = spanC y := q2
  subst q1'; subst q2'
  exact ⟨x, y, rfl⟩
theorem okWide_arr {P : Program} {w : World} {r : Reach} {base : Nat} {t : TypeId} {v : Value} {N : Nat} {e : TypeId} (ht : P.underlying t = some (.array N e)) (h : Value.okWide P w r base t v) : ∃ cs, v = .agg cs ∧ cs.size = P.cellsOf t := by
  simp only [Value.okWide, ht] at h
  obtain ⟨cs, h1, h2, _⟩ := h
  exact ⟨cs, h1, h2⟩
theorem arr_ints {P : Program} {t e : TypeId} {N : Nat} (ht : P.underlying t = some (.array N e)) (hc : P.cellsOf e = 1) (hct : P.cellsOf t = N) (he : P.underlying e = some (.int .i64)) {W : World} {cs : List Value} (h : FieldAt enc P W t cs) : ∃ f : Nat → Int, cs = (List.range N).map (fun i => .int .i64 (f i)) := by
  obtain ⟨fuel, d, ps, h, _⟩ := h
  obtain ⟨xs, m, _, _, hl, hxl, hf⟩ := DataW.trod_array ht h
  have each : ∀ i, i < N → ∃ z : Int, cs[i]? = some (.int .i64 z) := by
    intro i hi
    have h1 := hf i hi
    rw [hc, Nat.mul_one, List.getElem?_eq_getElem (by omega)] at h1
    obtain ⟨z, e1, _⟩ := DataW.trod_int he h1
    refine ⟨z, ?_⟩
    have e2 : ((cs.drop i).take 1)[0]? = some (Value.int .i64 z) := by rw [e1]; rfl
    rw [List.getElem?_take_of_lt (by omega), List.getElem?_drop] at e2
    simpa using e2
  obtain ⟨f, hf⟩ := Go.Deep.choose_lt each
  refine ⟨f, List.ext_getElem? fun i => ?_⟩
  by_cases hi : i < N
  · rw [hf i hi]; simp [hi]
  · rw [List.getElem?_eq_none (by omega), List.getElem?_eq_none (by simp; omega)]
theorem o_less {W : World} {cs : List Value} (h : FieldAt enc Try.prog W 46 cs) : ∃ (n : Nat → Int) (s p : Span), cs = lessC n s p := by
  obtain ⟨fuel, d, ps, h, hw⟩ := h
  obtain ⟨css, hl, rfl, hf⟩ := open_struct (fs := [_, _, _]) Try.underlying46 (by kernel_rfl) (by kernel_rfl) h hw
  obtain ⟨a, b, c, rfl⟩ := len3 hl
  obtain ⟨n, q1⟩ := arr_ints Try.underlying44 (by kernel_rfl) (by kernel_rfl) Try.underlying3 (hf 0 _ _ rfl rfl)
  obtain ⟨x, q2⟩ := (hf 1 _ _ rfl rfl).open_ o_span
  obtain ⟨y, q3⟩ := (hf 2 _ _ rfl rfl).open_ o_span
  have q2' : b = spanC x := q2; have q3' : c = spanC y := q3
  subst q1; subst q2'; subst q3'
  exact ⟨n, x, y, rfl⟩
theorem o_n3 {W : World} {cs : List Value} (h : FieldAt enc Try.prog W 62 cs) : ∃ n : Nat → Int, cs = [.int .i64 (n 0), .int .i64 (n 1), .int .i64 (n 2)] := arr_ints Try.underlying62 (by kernel_rfl) (by kernel_rfl) Try.underlying3 h
end
end Go.Proofs.Ytdnodlgebpnfoaa
