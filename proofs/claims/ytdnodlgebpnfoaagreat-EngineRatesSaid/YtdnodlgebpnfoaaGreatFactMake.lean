/- A closed fact on the program: how it was made. -/
import Derived.Test.YtdnodlgebpnfoaaGreatRows
import Derived.JoinedOf
import Derived.ProofKit
namespace Go.Proofs.YtdnodlgebpnfoaaGreat
open Go Go.RowKit
theorem fact_make : Tryz.prog.make = some Rows.engineRatesRow.make := by kernel_rfl
end Go.Proofs.YtdnodlgebpnfoaaGreat
