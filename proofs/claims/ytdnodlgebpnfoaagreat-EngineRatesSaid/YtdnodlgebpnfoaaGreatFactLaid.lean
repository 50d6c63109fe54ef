/- A closed fact on the program: that it is laid out. -/
import Derived.Test.YtdnodlgebpnfoaaGreatRows
import Derived.JoinedOf
import Derived.ProofKit
namespace Go.Proofs.YtdnodlgebpnfoaaGreat
open Go Go.RowKit
theorem fact_laid : laidOutB Tryz.prog = true := by kernel_rfl
theorem fact_own : ownKnob Tryz.prog.godebug = none := by kernel_rfl
end Go.Proofs.YtdnodlgebpnfoaaGreat
