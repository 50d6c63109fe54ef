/- How the arguments' types read: closed facts on the program's types. -/
import Derived.Test.YtdnodlgebpnfoaaGreatOpen
import Derived.Test.YtdnodlgebpnfoaaGreatTyp
namespace Go.Proofs.YtdnodlgebpnfoaaGreat
open Go Go.RowKit Go.Shelf Sw
set_option linter.unusedVariables false
set_option linter.unusedSimpArgs false
section
variable {H : Type} {enc : TypeId × Value → H}
theorem o_int : Opens enc Tryz.prog 3 kInt := opens_int Tryz.underlying3
theorem o_ints : Opens enc Tryz.prog 22 (kSl kInt (by decide)) := opens_slice _ Tryz.underlying22 (by kernel_rfl) (by kernel_rfl) o_int
theorem o_rows : Opens enc Tryz.prog 23 (kSl kRow (by decide)) := opens_slice _ Tryz.underlying23 (by kernel_rfl) (by kernel_rfl) o_ints
theorem o_tab : Opens enc Tryz.prog 25 kTab := opens_tab Tryz.underlying25 (by kernel_rfl) (by kernel_rfl) rfl rfl rfl o_ints o_ints o_rows
theorem o_span : Opens enc Tryz.prog 31 kSpan := opens_span Tryz.underlying31 (by kernel_rfl) (by kernel_rfl) rfl rfl o_int
theorem o_air : Opens enc Tryz.prog 33 kAir := opens_air Tryz.underlying33 (by kernel_rfl) (by kernel_rfl) rfl rfl rfl rfl o_span
theorem o_rot {W : World} {cs : List Value} (h : FieldAt enc Tryz.prog W 27 cs) : ∃ (V : RV) (r : Rot), cs = rotC V r ∧ RotR (fun _ => True) W V r := open_rot Tryz.underlying27 (by kernel_rfl) (by kernel_rfl) rfl o_tab o_int h
end
end Go.Proofs.YtdnodlgebpnfoaaGreat
