/- A closed fact on the program: what is lifted. -/
import Derived.Test.YtdnodlgebpnfoaaGreatRows
import Derived.JoinedOf
import Derived.ProofKit
namespace Go.Proofs.YtdnodlgebpnfoaaGreat
open Go Go.RowKit
theorem fact_lift : Tryz.prog.liftsFinal = Rows.engineRatesRow.lifted := by kernel_rfl
end Go.Proofs.YtdnodlgebpnfoaaGreat
