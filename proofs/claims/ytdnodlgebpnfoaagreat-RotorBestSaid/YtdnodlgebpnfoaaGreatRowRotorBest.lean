/- Best and Fast of the program return what the specification returns; no speed has a greater rate than Best, and no greater one than Fast can be flown, though Fast can, for rotors of at most 3000 speeds.
   Conditions: none of ours; the row's own. -/
import Derived.Test.YtdnodlgebpnfoaaGreatRows
import Derived.Test.YtdnodlgebpnfoaaGreatLowRotorBest
import Derived.Test.YtdnodlgebpnfoaaGreatFactMay
import Derived.Test.YtdnodlgebpnfoaaGreatFactLift
import Derived.Test.YtdnodlgebpnfoaaGreatFactMake
import Derived.Test.YtdnodlgebpnfoaaGreatFactLaid
import Derived.WalkKit
import Derived.ProofKit
import Derived.OpenShut
import Derived.ShutString
import Derived.ChangeOld
import Derived.Below
import Derived.SizedLaws
import Derived.JoinedOf
namespace Go.Proofs.YtdnodlgebpnfoaaGreat
open Go Go.RowKit Go.Shelf Go.ChangeShapes Go.WideShapes Go.ChangeAt Sw
theorem lw_rotorBest_closed : joinedFacts Tryz.prog 5 Tryz.f5 Rows.rotorBestSpec Rows.rotorBestRow = true := by
  unfold joinedFacts
  rw [fact_may, fact_lift, fact_make, fact_laid]
  kernel_rfl
theorem lw_rotorBest_holds : Rows.RotorBestSaid :=
  OpenClaim.holds_of_wide 5 Tryz.f5 rfl rfl rfl rfl rfl rfl rfl ⟨rfl, rfl, rfl, rfl, rfl⟩ rfl rfl rfl rfl rfl (by kernel_rfl) Tryz.func5 lw_rotorBest_closed
    (of_decide_eq_true (by kernel_rfl)) (by unfold Func.isWrapper; first | (rw [if_pos (by decide +kernel)]; kernel_rfl) | (rw [if_neg (by decide +kernel)]; exact ⟨rfl, rfl⟩))
    (fun os started H enc _ => lw_rotorBest_lifted os started H enc)
#print axioms lw_rotorBest_holds
end Go.Proofs.YtdnodlgebpnfoaaGreat
