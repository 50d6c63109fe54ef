/- How the arguments' types read: closed facts on the program's types. -/
import Derived.Test.YtdnodlgebpnfoaaOpen
import Derived.Test.YtdnodlgebpnfoaaTyp
namespace Go.Proofs.Ytdnodlgebpnfoaa
open Go Go.RowKit Go.Shelf Sw
set_option linter.unusedVariables false
set_option linter.unusedSimpArgs false
section
variable {H : Type} {enc : TypeId × Value → H}
theorem o_int : Opens enc Try.prog 3 kInt := opens_int Try.underlying3
theorem o_ints : Opens enc Try.prog 22 (kSl kInt (by decide)) := opens_slice _ Try.underlying22 (by kernel_rfl) (by kernel_rfl) o_int
theorem o_rows : Opens enc Try.prog 23 (kSl kRow (by decide)) := opens_slice _ Try.underlying23 (by kernel_rfl) (by kernel_rfl) o_ints
theorem o_tab : Opens enc Try.prog 25 kTab := opens_tab Try.underlying25 (by kernel_rfl) (by kernel_rfl) rfl rfl rfl o_ints o_ints o_rows
theorem o_span : Opens enc Try.prog 34 kSpan := opens_span Try.underlying34 (by kernel_rfl) (by kernel_rfl) rfl rfl o_int
theorem o_air : Opens enc Try.prog 36 kAir := opens_air Try.underlying36 (by kernel_rfl) (by kernel_rfl) rfl rfl rfl rfl o_span
theorem o_rot {W : World} {cs : List Value} (h : FieldAt enc Try.prog W 27 cs) : ∃ (V : RV) (r : Rot), cs = rotC V r ∧ RotR (fun _ => True) W V r := open_rot Try.underlying27 (by kernel_rfl) (by kernel_rfl) rfl o_tab o_int h
theorem o_load {W : World} {cs : List Value} (h : FieldAt enc Try.prog W 38 cs) : ∃ (p : Span) (rs : Int), cs = loadC p rs := by
  obtain ⟨fuel, d, ps, h, hw⟩ := h
  obtain ⟨css, hl, rfl, hf⟩ := open_struct (fs := [_, _]) Try.underlying38 (by kernel_rfl) (by kernel_rfl) h hw
  obtain ⟨a, b, rfl⟩ := len2 hl
  obtain ⟨x, q1⟩ := (hf 0 _ _ rfl rfl).open_ o_span
  obtain ⟨y, q2⟩ := (hf 1 _ _ rfl rfl).open_ o_int
  have q1' : a = spanC x := q1; have q2' : b = [.int .i64 y] := q2
  subst q1'; subst q2'
  exact ⟨x, y, rfl⟩
theorem o_sink {W : World} {cs : List Value} (h : FieldAt enc Try.prog W 54 cs) : ∃ (p q : Span), cs = [.int .i64 p.lo, .int .i64 p.hi, .int .i64 q.lo, .int .i64 q.hi] := by
  obtain ⟨fuel, d, ps, h, hw⟩ := h
  obtain ⟨css, hl, rfl, hf⟩ := open_struct (fs := [_, _]) Try.underlying54 (by kernel_rfl) (by kernel_rfl) h hw
  obtain ⟨a, b, rfl⟩ := len2 hl
  obtain ⟨x, q1⟩ := (hf 0 _ _ rfl rfl).open_ o_span
  obtain ⟨y, q2⟩ := (hf 1 _ _ rfl rfl).open_ o_span
  have q1' : a = spanC x := q1; have q2' : b = spanC y := q2
  subst q1'; subst q2'
  exact ⟨x, y, rfl⟩
end
end Go.Proofs.Ytdnodlgebpnfoaa
