/- A closed fact on the program: that every function may be entered. -/
import Derived.Test.YtdnodlgebpnfoaaGreatRows
import Derived.JoinedOf
import Derived.ProofKit
namespace Go.Proofs.YtdnodlgebpnfoaaGreat
open Go Go.RowKit
theorem fact_may : Tryz.prog.mayEnter = true := by kernel_rfl
end Go.Proofs.YtdnodlgebpnfoaaGreat
