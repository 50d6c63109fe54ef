/- Check and Rates of the program return what the specification returns, for every craft, air and field; and the chapter's example comes out as it must.
   Conditions: none of ours; the row's own. -/
import Derived.Test.YtdnodlgebpnfoaaGreatRows
import Derived.Test.YtdnodlgebpnfoaaGreatK7EngineRates
import Derived.WalkKit
import Derived.ProofKit
import Derived.OpenShut
import Derived.ShutString
import Derived.ChangeOld
import Derived.Below
import Derived.SizedLaws
import Derived.JoinedOf
namespace Go.Proofs.YtdnodlgebpnfoaaGreat
open Go Go.RowKit Go.Shelf Go.ChangeShapes Go.WideShapes Go.ChangeAt Sw
theorem lw_engineRates_closed : joinedFacts Tryz.prog 6 Tryz.f6 Rows.engineRatesSpec Rows.engineRatesRow = true := by
  unfold joinedFacts
  rw [fact_may, fact_lift, fact_make, fact_laid]
  kernel_rfl
theorem lw_engineRates_holds : Rows.EngineRatesSaid :=
  OpenClaim.holds_of_wide 6 Tryz.f6 rfl rfl rfl rfl rfl rfl rfl ⟨rfl, rfl, rfl, rfl, rfl⟩ rfl rfl rfl rfl rfl (by kernel_rfl) Tryz.func6 lw_engineRates_closed
    (of_decide_eq_true (by kernel_rfl)) (by unfold Func.isWrapper; first | (rw [if_pos (by decide +kernel)]; kernel_rfl) | (rw [if_neg (by decide +kernel)]; exact ⟨rfl, rfl⟩))
    (fun os started H enc _ => lw_engineRates_lifted os started H enc)
#print axioms lw_engineRates_holds
end Go.Proofs.YtdnodlgebpnfoaaGreat
