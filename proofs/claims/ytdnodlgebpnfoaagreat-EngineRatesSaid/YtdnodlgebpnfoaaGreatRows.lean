/-
  No cell of these rows narrows 'for every input' (looked for: loops, veiled, ifaces, maps, wideKeys, modest, calm, conditions, laid).
  DERIVED. THE GIVEN ROWS OF THIS SEAT. 15 by the template 'for every input the law returns true; each argument reads behind the call as it read before'; 0 by the template 'total and deterministic' (their statements: YtdnodlgebpnfoaaGreatTotals.lean).
  GIVEN WITH THE SEED: the statements are not yours to turn. If you find one false, say at which input.
  Laid BY PROGRAM, IN A SANDBOX (cutbox-rows.mjs): the forced cells as the released guide's own fill.sh prints them over the translation 36d276d4533195cf… (all of the seat's roots in one cut). By AI agents, Wed Nov 11 2026. No macro, syntax, notation, axiom, sorry.
-/
import Derived.Test.YtdnodlgebpnfoaaGreatChecked
import GoSem.Claim
import GoSem.ClaimJoined
import GoSem.ClaimMapViews
import Derived.JoinedTies
import Derived.KernelRfl
namespace Go.Proofs.YtdnodlgebpnfoaaGreat
/- THE CELL 'sum', in the pinned program and in every row, IS THE sha256 OF THE DUMP (.gsa) THAT YtdnodlgebpnfoaaGreatProg.lean LOADS. Nothing in Lean hashes anything: it is a label: what it is worth is what the hold of that sum in a sandbox is worth. -/
noncomputable def Tryz.pinned : Pinned := { name := "ytdnodlgebpnfoaagreat", sum := "36d276d4533195cfadfa94f825f647da2692e48721be8448b7ef7fdacc6173f1", checked := Tryz.checked }
namespace Rows
def none {H : Type} : Left H := { results := [], args := [] }

/-- 'swashplatetop.TopDescends': WHATEVER THE INPUT: true; the input reads as it did. -/
def topDescendsSpec : ChangeSpec := { name := "topDescends", fn := fun _ => fun
  | [d1, d2, d3] => { results := [.lit (.bool true)], args := [d1, d2, d3] }
  | _ => none }
def topDescendsRow : OpenClaim := { program := "ytdnodlgebpnfoaagreat", sum := "36d276d4533195cfadfa94f825f647da2692e48721be8448b7ef7fdacc6173f1", func := "swashplate/swashplatetop.TopDescends", spec := "topDescends", unfollowed := true, recurses := true, plainKeys := false, apart := false }
def TopDescendsSaid : Prop := topDescendsRow.holds Tryz.pinned (OpenSpec.ofChange topDescendsSpec)

/-- ITS FALSE NEIGHBOUR: 'it returns false'. Refute it at one input. -/
def topDescendsWrong : ChangeSpec := { name := "topDescends", fn := fun _ => fun
  | [d1, d2, d3] => { results := [.lit (.bool false)], args := [d1, d2, d3] }
  | _ => none }
def TopDescendsWrongFalsely : Prop := topDescendsRow.holds Tryz.pinned (OpenSpec.ofChange topDescendsWrong)

/-- 'swashplatetop.TopParted': WHATEVER THE INPUT: true; the input reads as it did. -/
def topPartedSpec : ChangeSpec := { name := "topParted", fn := fun _ => fun
  | [d1, d2, d3] => { results := [.lit (.bool true)], args := [d1, d2, d3] }
  | _ => none }
def topPartedRow : OpenClaim := { program := "ytdnodlgebpnfoaagreat", sum := "36d276d4533195cfadfa94f825f647da2692e48721be8448b7ef7fdacc6173f1", func := "swashplate/swashplatetop.TopParted", spec := "topParted", unfollowed := true, recurses := true, plainKeys := false, apart := false }
def TopPartedSaid : Prop := topPartedRow.holds Tryz.pinned (OpenSpec.ofChange topPartedSpec)

/-- ITS FALSE NEIGHBOUR: 'it returns false'. Refute it at one input. -/
def topPartedWrong : ChangeSpec := { name := "topParted", fn := fun _ => fun
  | [d1, d2, d3] => { results := [.lit (.bool false)], args := [d1, d2, d3] }
  | _ => none }
def TopPartedWrongFalsely : Prop := topPartedRow.holds Tryz.pinned (OpenSpec.ofChange topPartedWrong)

/-- 'swashplatelaw02.RotorBest': WHATEVER THE INPUT: true; the input reads as it did. -/
def rotorBestSpec : ChangeSpec := { name := "rotorBest", fn := fun _ => fun
  | [d1, d2, d3] => { results := [.lit (.bool true)], args := [d1, d2, d3] }
  | _ => none }
def rotorBestRow : OpenClaim := { program := "ytdnodlgebpnfoaagreat", sum := "36d276d4533195cfadfa94f825f647da2692e48721be8448b7ef7fdacc6173f1", func := "swashplate/swashplatelaw02.RotorBest", spec := "rotorBest", unfollowed := true, recurses := true, plainKeys := false, apart := false }
def RotorBestSaid : Prop := rotorBestRow.holds Tryz.pinned (OpenSpec.ofChange rotorBestSpec)

/-- ITS FALSE NEIGHBOUR: 'it returns false'. Refute it at one input. -/
def rotorBestWrong : ChangeSpec := { name := "rotorBest", fn := fun _ => fun
  | [d1, d2, d3] => { results := [.lit (.bool false)], args := [d1, d2, d3] }
  | _ => none }
def RotorBestWrongFalsely : Prop := rotorBestRow.holds Tryz.pinned (OpenSpec.ofChange rotorBestWrong)

/-- 'swashplatelaw03.EngineRates': WHATEVER THE INPUT: true; the input reads as it did. -/
def engineRatesSpec : ChangeSpec := { name := "engineRates", fn := fun _ => fun
  | [d1, d2, d3] => { results := [.lit (.bool true)], args := [d1, d2, d3] }
  | _ => none }
def engineRatesRow : OpenClaim := { program := "ytdnodlgebpnfoaagreat", sum := "36d276d4533195cfadfa94f825f647da2692e48721be8448b7ef7fdacc6173f1", func := "swashplate/swashplatelaw03.EngineRates", spec := "engineRates", unfollowed := true, recurses := true, plainKeys := false, apart := false }
def EngineRatesSaid : Prop := engineRatesRow.holds Tryz.pinned (OpenSpec.ofChange engineRatesSpec)

/-- ITS FALSE NEIGHBOUR: 'it returns false'. Refute it at one input. -/
def engineRatesWrong : ChangeSpec := { name := "engineRates", fn := fun _ => fun
  | [d1, d2, d3] => { results := [.lit (.bool false)], args := [d1, d2, d3] }
  | _ => none }
def EngineRatesWrongFalsely : Prop := engineRatesRow.holds Tryz.pinned (OpenSpec.ofChange engineRatesWrong)

/-- 'swashplatelaw03.EngineSteps': WHATEVER THE INPUT: true; the input reads as it did. -/
def engineStepsSpec : ChangeSpec := { name := "engineSteps", fn := fun _ => fun
  | [d1, d2, d3] => { results := [.lit (.bool true)], args := [d1, d2, d3] }
  | _ => none }
def engineStepsRow : OpenClaim := { program := "ytdnodlgebpnfoaagreat", sum := "36d276d4533195cfadfa94f825f647da2692e48721be8448b7ef7fdacc6173f1", func := "swashplate/swashplatelaw03.EngineSteps", spec := "engineSteps", unfollowed := true, recurses := true, plainKeys := false, apart := false }
def EngineStepsSaid : Prop := engineStepsRow.holds Tryz.pinned (OpenSpec.ofChange engineStepsSpec)

/-- ITS FALSE NEIGHBOUR: 'it returns false'. Refute it at one input. -/
def engineStepsWrong : ChangeSpec := { name := "engineSteps", fn := fun _ => fun
  | [d1, d2, d3] => { results := [.lit (.bool false)], args := [d1, d2, d3] }
  | _ => none }
def EngineStepsWrongFalsely : Prop := engineStepsRow.holds Tryz.pinned (OpenSpec.ofChange engineStepsWrong)

/-- 'swashplatelaw03.EngineDeparts': WHATEVER THE INPUT: true; the input reads as it did. -/
def engineDepartsSpec : ChangeSpec := { name := "engineDeparts", fn := fun _ => fun
  | [d1, d2, d3] => { results := [.lit (.bool true)], args := [d1, d2, d3] }
  | _ => none }
def engineDepartsRow : OpenClaim := { program := "ytdnodlgebpnfoaagreat", sum := "36d276d4533195cfadfa94f825f647da2692e48721be8448b7ef7fdacc6173f1", func := "swashplate/swashplatelaw03.EngineDeparts", spec := "engineDeparts", unfollowed := true, recurses := true, plainKeys := false, apart := false }
def EngineDepartsSaid : Prop := engineDepartsRow.holds Tryz.pinned (OpenSpec.ofChange engineDepartsSpec)

/-- ITS FALSE NEIGHBOUR: 'it returns false'. Refute it at one input. -/
def engineDepartsWrong : ChangeSpec := { name := "engineDeparts", fn := fun _ => fun
  | [d1, d2, d3] => { results := [.lit (.bool false)], args := [d1, d2, d3] }
  | _ => none }
def EngineDepartsWrongFalsely : Prop := engineDepartsRow.holds Tryz.pinned (OpenSpec.ofChange engineDepartsWrong)

/-- 'swashplatelaw03.EngineWays': WHATEVER THE INPUT: true; the input reads as it did. -/
def engineWaysSpec : ChangeSpec := { name := "engineWays", fn := fun _ => fun
  | [d1, d2, d3] => { results := [.lit (.bool true)], args := [d1, d2, d3] }
  | _ => none }
def engineWaysRow : OpenClaim := { program := "ytdnodlgebpnfoaagreat", sum := "36d276d4533195cfadfa94f825f647da2692e48721be8448b7ef7fdacc6173f1", func := "swashplate/swashplatelaw03.EngineWays", spec := "engineWays", unfollowed := true, recurses := true, plainKeys := false, apart := false }
def EngineWaysSaid : Prop := engineWaysRow.holds Tryz.pinned (OpenSpec.ofChange engineWaysSpec)

/-- ITS FALSE NEIGHBOUR: 'it returns false'. Refute it at one input. -/
def engineWaysWrong : ChangeSpec := { name := "engineWays", fn := fun _ => fun
  | [d1, d2, d3] => { results := [.lit (.bool false)], args := [d1, d2, d3] }
  | _ => none }
def EngineWaysWrongFalsely : Prop := engineWaysRow.holds Tryz.pinned (OpenSpec.ofChange engineWaysWrong)

/-- 'swashplatelaw03.EngineShortest': WHATEVER THE INPUT: true; the input reads as it did. -/
def engineShortestSpec : ChangeSpec := { name := "engineShortest", fn := fun _ => fun
  | [d1, d2, d3] => { results := [.lit (.bool true)], args := [d1, d2, d3] }
  | _ => none }
def engineShortestRow : OpenClaim := { program := "ytdnodlgebpnfoaagreat", sum := "36d276d4533195cfadfa94f825f647da2692e48721be8448b7ef7fdacc6173f1", func := "swashplate/swashplatelaw03.EngineShortest", spec := "engineShortest", unfollowed := true, recurses := true, plainKeys := false, apart := false }
def EngineShortestSaid : Prop := engineShortestRow.holds Tryz.pinned (OpenSpec.ofChange engineShortestSpec)

/-- ITS FALSE NEIGHBOUR: 'it returns false'. Refute it at one input. -/
def engineShortestWrong : ChangeSpec := { name := "engineShortest", fn := fun _ => fun
  | [d1, d2, d3] => { results := [.lit (.bool false)], args := [d1, d2, d3] }
  | _ => none }
def EngineShortestWrongFalsely : Prop := engineShortestRow.holds Tryz.pinned (OpenSpec.ofChange engineShortestWrong)

/-- 'swashplatelaw03.EngineMore': WHATEVER THE INPUT: true; the input reads as it did. -/
def engineMoreSpec : ChangeSpec := { name := "engineMore", fn := fun _ => fun
  | [d1, d2, d3] => { results := [.lit (.bool true)], args := [d1, d2, d3] }
  | _ => none }
def engineMoreRow : OpenClaim := { program := "ytdnodlgebpnfoaagreat", sum := "36d276d4533195cfadfa94f825f647da2692e48721be8448b7ef7fdacc6173f1", func := "swashplate/swashplatelaw03.EngineMore", spec := "engineMore", unfollowed := true, recurses := true, plainKeys := false, apart := false }
def EngineMoreSaid : Prop := engineMoreRow.holds Tryz.pinned (OpenSpec.ofChange engineMoreSpec)

/-- ITS FALSE NEIGHBOUR: 'it returns false'. Refute it at one input. -/
def engineMoreWrong : ChangeSpec := { name := "engineMore", fn := fun _ => fun
  | [d1, d2, d3] => { results := [.lit (.bool false)], args := [d1, d2, d3] }
  | _ => none }
def EngineMoreWrongFalsely : Prop := engineMoreRow.holds Tryz.pinned (OpenSpec.ofChange engineMoreWrong)

/-- 'swashplatelaw03.EngineAir': WHATEVER THE INPUT: true; the input reads as it did. -/
def engineAirSpec : ChangeSpec := { name := "engineAir", fn := fun _ => fun
  | [d1, d2, d3] => { results := [.lit (.bool true)], args := [d1, d2, d3] }
  | _ => none }
def engineAirRow : OpenClaim := { program := "ytdnodlgebpnfoaagreat", sum := "36d276d4533195cfadfa94f825f647da2692e48721be8448b7ef7fdacc6173f1", func := "swashplate/swashplatelaw03.EngineAir", spec := "engineAir", unfollowed := true, recurses := true, plainKeys := false, apart := false }
def EngineAirSaid : Prop := engineAirRow.holds Tryz.pinned (OpenSpec.ofChange engineAirSpec)

/-- ITS FALSE NEIGHBOUR: 'it returns false'. Refute it at one input. -/
def engineAirWrong : ChangeSpec := { name := "engineAir", fn := fun _ => fun
  | [d1, d2, d3] => { results := [.lit (.bool false)], args := [d1, d2, d3] }
  | _ => none }
def EngineAirWrongFalsely : Prop := engineAirRow.holds Tryz.pinned (OpenSpec.ofChange engineAirWrong)

/-- 'swashplatelaw03.EngineClears': WHATEVER THE INPUT: true; the input reads as it did. -/
def engineClearsSpec : ChangeSpec := { name := "engineClears", fn := fun _ => fun
  | [d1, d2, d3] => { results := [.lit (.bool true)], args := [d1, d2, d3] }
  | _ => none }
def engineClearsRow : OpenClaim := { program := "ytdnodlgebpnfoaagreat", sum := "36d276d4533195cfadfa94f825f647da2692e48721be8448b7ef7fdacc6173f1", func := "swashplate/swashplatelaw03.EngineClears", spec := "engineClears", unfollowed := true, recurses := true, plainKeys := false, apart := false }
def EngineClearsSaid : Prop := engineClearsRow.holds Tryz.pinned (OpenSpec.ofChange engineClearsSpec)

/-- ITS FALSE NEIGHBOUR: 'it returns false'. Refute it at one input. -/
def engineClearsWrong : ChangeSpec := { name := "engineClears", fn := fun _ => fun
  | [d1, d2, d3] => { results := [.lit (.bool false)], args := [d1, d2, d3] }
  | _ => none }
def EngineClearsWrongFalsely : Prop := engineClearsRow.holds Tryz.pinned (OpenSpec.ofChange engineClearsWrong)

/-- 'swashplatelaw03.EngineMoment': WHATEVER THE INPUT: true; the input reads as it did. -/
def engineMomentSpec : ChangeSpec := { name := "engineMoment", fn := fun _ => fun
  | [d1, d2, d3] => { results := [.lit (.bool true)], args := [d1, d2, d3] }
  | _ => none }
def engineMomentRow : OpenClaim := { program := "ytdnodlgebpnfoaagreat", sum := "36d276d4533195cfadfa94f825f647da2692e48721be8448b7ef7fdacc6173f1", func := "swashplate/swashplatelaw03.EngineMoment", spec := "engineMoment", unfollowed := true, recurses := true, plainKeys := false, apart := false }
def EngineMomentSaid : Prop := engineMomentRow.holds Tryz.pinned (OpenSpec.ofChange engineMomentSpec)

/-- ITS FALSE NEIGHBOUR: 'it returns false'. Refute it at one input. -/
def engineMomentWrong : ChangeSpec := { name := "engineMoment", fn := fun _ => fun
  | [d1, d2, d3] => { results := [.lit (.bool false)], args := [d1, d2, d3] }
  | _ => none }
def EngineMomentWrongFalsely : Prop := engineMomentRow.holds Tryz.pinned (OpenSpec.ofChange engineMomentWrong)

/-- 'swashplatelaw03.EngineHeaviest': WHATEVER THE INPUT: true; the input reads as it did. -/
def engineHeaviestSpec : ChangeSpec := { name := "engineHeaviest", fn := fun _ => fun
  | [d1, d2, d3] => { results := [.lit (.bool true)], args := [d1, d2, d3] }
  | _ => none }
def engineHeaviestRow : OpenClaim := { program := "ytdnodlgebpnfoaagreat", sum := "36d276d4533195cfadfa94f825f647da2692e48721be8448b7ef7fdacc6173f1", func := "swashplate/swashplatelaw03.EngineHeaviest", spec := "engineHeaviest", unfollowed := true, recurses := true, plainKeys := false, apart := false }
def EngineHeaviestSaid : Prop := engineHeaviestRow.holds Tryz.pinned (OpenSpec.ofChange engineHeaviestSpec)

/-- ITS FALSE NEIGHBOUR: 'it returns false'. Refute it at one input. -/
def engineHeaviestWrong : ChangeSpec := { name := "engineHeaviest", fn := fun _ => fun
  | [d1, d2, d3] => { results := [.lit (.bool false)], args := [d1, d2, d3] }
  | _ => none }
def EngineHeaviestWrongFalsely : Prop := engineHeaviestRow.holds Tryz.pinned (OpenSpec.ofChange engineHeaviestWrong)

/-- 'swashplatelaw03.EngineDecides': WHATEVER THE INPUT: true; the input reads as it did. -/
def engineDecidesSpec : ChangeSpec := { name := "engineDecides", fn := fun _ => fun
  | [d1, d2, d3] => { results := [.lit (.bool true)], args := [d1, d2, d3] }
  | _ => none }
def engineDecidesRow : OpenClaim := { program := "ytdnodlgebpnfoaagreat", sum := "36d276d4533195cfadfa94f825f647da2692e48721be8448b7ef7fdacc6173f1", func := "swashplate/swashplatelaw03.EngineDecides", spec := "engineDecides", unfollowed := true, recurses := true, plainKeys := false, apart := false }
def EngineDecidesSaid : Prop := engineDecidesRow.holds Tryz.pinned (OpenSpec.ofChange engineDecidesSpec)

/-- ITS FALSE NEIGHBOUR: 'it returns false'. Refute it at one input. -/
def engineDecidesWrong : ChangeSpec := { name := "engineDecides", fn := fun _ => fun
  | [d1, d2, d3] => { results := [.lit (.bool false)], args := [d1, d2, d3] }
  | _ => none }
def EngineDecidesWrongFalsely : Prop := engineDecidesRow.holds Tryz.pinned (OpenSpec.ofChange engineDecidesWrong)

/-- 'swashplatelaw03.EngineLeast': WHATEVER THE INPUT: true; the input reads as it did. -/
def engineLeastSpec : ChangeSpec := { name := "engineLeast", fn := fun _ => fun
  | [d1, d2, d3] => { results := [.lit (.bool true)], args := [d1, d2, d3] }
  | _ => none }
def engineLeastRow : OpenClaim := { program := "ytdnodlgebpnfoaagreat", sum := "36d276d4533195cfadfa94f825f647da2692e48721be8448b7ef7fdacc6173f1", func := "swashplate/swashplatelaw03.EngineLeast", spec := "engineLeast", unfollowed := true, recurses := true, plainKeys := false, apart := false }
def EngineLeastSaid : Prop := engineLeastRow.holds Tryz.pinned (OpenSpec.ofChange engineLeastSpec)

/-- ITS FALSE NEIGHBOUR: 'it returns false'. Refute it at one input. -/
def engineLeastWrong : ChangeSpec := { name := "engineLeast", fn := fun _ => fun
  | [d1, d2, d3] => { results := [.lit (.bool false)], args := [d1, d2, d3] }
  | _ => none }
def EngineLeastWrongFalsely : Prop := engineLeastRow.holds Tryz.pinned (OpenSpec.ofChange engineLeastWrong)

/- THE SECOND FORM. 'bulk': how many values and letters a reading holds, each counted each time it is reached (what is shared counts as often as it is met; a slice's spare places count too). A statement '..UptoSaid' is the law's where the arguments, and the package variables that the reading takes, are together of bulk at most 1048576: NARROWER than '..Said'. Prove '..Said' where nothing that the law and all that it calls make is longer than what came in: it says more and counts as full. Else prove '..UptoSaid'. A law counts once. -/
mutual
def uptoBulk {H : Type} : DataW H → Nat
  | .lit (.string bytes) => bytes.length + 1
  | .lit _ => 1
  | .nil => 1
  | .ptr d => uptoBulk d + 1
  | .slice elems spare => uptoBulkAll elems + uptoBulkAll spare + 1
  | .agg parts => uptoBulkAll parts + 1
  | .iface _ d => uptoBulk d + 1
  | .map entries => uptoBulkEntries entries + 1
  | .held _ => 1
def uptoBulkAll {H : Type} : List (DataW H) → Nat
  | [] => 0
  | d :: r => uptoBulk d + uptoBulkAll r
def uptoBulkEntries {H : Type} : List (Lit × DataW H) → Nat
  | [] => 0
  | x :: r => uptoBulkEntry x + uptoBulkEntries r
def uptoBulkEntry {H : Type} : Lit × DataW H → Nat
  | (.string bytes, d) => bytes.length + uptoBulk d + 1
  | (_, d) => uptoBulk d + 1
 end
def uptoSmall : (H : Type) → List (DataW H) → Bool := fun _ ds => decide (uptoBulkAll ds ≤ 1048576)
def OpenSpec.upto (s : _root_.Go.ChangeSpec) : _root_.Go.OpenSpec := { _root_.Go.OpenSpec.ofChange s with cond := some uptoSmall }

/-- 'swashplatetop.TopDescends', WHERE WHAT IT READS IS OF BULK AT MOST 1048576: true; the input reads as it did. -/
def topDescendsUptoRow : OpenClaim := { program := "ytdnodlgebpnfoaagreat", sum := "36d276d4533195cfadfa94f825f647da2692e48721be8448b7ef7fdacc6173f1", func := "swashplate/swashplatetop.TopDescends", spec := "topDescends", unfollowed := true, recurses := true, plainKeys := false, apart := false, narrowed := true }
def TopDescendsUptoSaid : Prop := topDescendsUptoRow.holds Tryz.pinned (OpenSpec.upto topDescendsSpec)

/-- 'swashplatetop.TopParted', WHERE WHAT IT READS IS OF BULK AT MOST 1048576: true; the input reads as it did. -/
def topPartedUptoRow : OpenClaim := { program := "ytdnodlgebpnfoaagreat", sum := "36d276d4533195cfadfa94f825f647da2692e48721be8448b7ef7fdacc6173f1", func := "swashplate/swashplatetop.TopParted", spec := "topParted", unfollowed := true, recurses := true, plainKeys := false, apart := false, narrowed := true }
def TopPartedUptoSaid : Prop := topPartedUptoRow.holds Tryz.pinned (OpenSpec.upto topPartedSpec)

/-- 'swashplatelaw02.RotorBest', WHERE WHAT IT READS IS OF BULK AT MOST 1048576: true; the input reads as it did. -/
def rotorBestUptoRow : OpenClaim := { program := "ytdnodlgebpnfoaagreat", sum := "36d276d4533195cfadfa94f825f647da2692e48721be8448b7ef7fdacc6173f1", func := "swashplate/swashplatelaw02.RotorBest", spec := "rotorBest", unfollowed := true, recurses := true, plainKeys := false, apart := false, narrowed := true }
def RotorBestUptoSaid : Prop := rotorBestUptoRow.holds Tryz.pinned (OpenSpec.upto rotorBestSpec)

/-- 'swashplatelaw03.EngineRates', WHERE WHAT IT READS IS OF BULK AT MOST 1048576: true; the input reads as it did. -/
def engineRatesUptoRow : OpenClaim := { program := "ytdnodlgebpnfoaagreat", sum := "36d276d4533195cfadfa94f825f647da2692e48721be8448b7ef7fdacc6173f1", func := "swashplate/swashplatelaw03.EngineRates", spec := "engineRates", unfollowed := true, recurses := true, plainKeys := false, apart := false, narrowed := true }
def EngineRatesUptoSaid : Prop := engineRatesUptoRow.holds Tryz.pinned (OpenSpec.upto engineRatesSpec)

/-- 'swashplatelaw03.EngineSteps', WHERE WHAT IT READS IS OF BULK AT MOST 1048576: true; the input reads as it did. -/
def engineStepsUptoRow : OpenClaim := { program := "ytdnodlgebpnfoaagreat", sum := "36d276d4533195cfadfa94f825f647da2692e48721be8448b7ef7fdacc6173f1", func := "swashplate/swashplatelaw03.EngineSteps", spec := "engineSteps", unfollowed := true, recurses := true, plainKeys := false, apart := false, narrowed := true }
def EngineStepsUptoSaid : Prop := engineStepsUptoRow.holds Tryz.pinned (OpenSpec.upto engineStepsSpec)

/-- 'swashplatelaw03.EngineDeparts', WHERE WHAT IT READS IS OF BULK AT MOST 1048576: true; the input reads as it did. -/
def engineDepartsUptoRow : OpenClaim := { program := "ytdnodlgebpnfoaagreat", sum := "36d276d4533195cfadfa94f825f647da2692e48721be8448b7ef7fdacc6173f1", func := "swashplate/swashplatelaw03.EngineDeparts", spec := "engineDeparts", unfollowed := true, recurses := true, plainKeys := false, apart := false, narrowed := true }
def EngineDepartsUptoSaid : Prop := engineDepartsUptoRow.holds Tryz.pinned (OpenSpec.upto engineDepartsSpec)

/-- 'swashplatelaw03.EngineWays', WHERE WHAT IT READS IS OF BULK AT MOST 1048576: true; the input reads as it did. -/
def engineWaysUptoRow : OpenClaim := { program := "ytdnodlgebpnfoaagreat", sum := "36d276d4533195cfadfa94f825f647da2692e48721be8448b7ef7fdacc6173f1", func := "swashplate/swashplatelaw03.EngineWays", spec := "engineWays", unfollowed := true, recurses := true, plainKeys := false, apart := false, narrowed := true }
def EngineWaysUptoSaid : Prop := engineWaysUptoRow.holds Tryz.pinned (OpenSpec.upto engineWaysSpec)

/-- 'swashplatelaw03.EngineShortest', WHERE WHAT IT READS IS OF BULK AT MOST 1048576: true; the input reads as it did. -/
def engineShortestUptoRow : OpenClaim := { program := "ytdnodlgebpnfoaagreat", sum := "36d276d4533195cfadfa94f825f647da2692e48721be8448b7ef7fdacc6173f1", func := "swashplate/swashplatelaw03.EngineShortest", spec := "engineShortest", unfollowed := true, recurses := true, plainKeys := false, apart := false, narrowed := true }
def EngineShortestUptoSaid : Prop := engineShortestUptoRow.holds Tryz.pinned (OpenSpec.upto engineShortestSpec)

/-- 'swashplatelaw03.EngineMore', WHERE WHAT IT READS IS OF BULK AT MOST 1048576: true; the input reads as it did. -/
def engineMoreUptoRow : OpenClaim := { program := "ytdnodlgebpnfoaagreat", sum := "36d276d4533195cfadfa94f825f647da2692e48721be8448b7ef7fdacc6173f1", func := "swashplate/swashplatelaw03.EngineMore", spec := "engineMore", unfollowed := true, recurses := true, plainKeys := false, apart := false, narrowed := true }
def EngineMoreUptoSaid : Prop := engineMoreUptoRow.holds Tryz.pinned (OpenSpec.upto engineMoreSpec)

/-- 'swashplatelaw03.EngineAir', WHERE WHAT IT READS IS OF BULK AT MOST 1048576: true; the input reads as it did. -/
def engineAirUptoRow : OpenClaim := { program := "ytdnodlgebpnfoaagreat", sum := "36d276d4533195cfadfa94f825f647da2692e48721be8448b7ef7fdacc6173f1", func := "swashplate/swashplatelaw03.EngineAir", spec := "engineAir", unfollowed := true, recurses := true, plainKeys := false, apart := false, narrowed := true }
def EngineAirUptoSaid : Prop := engineAirUptoRow.holds Tryz.pinned (OpenSpec.upto engineAirSpec)

/-- 'swashplatelaw03.EngineClears', WHERE WHAT IT READS IS OF BULK AT MOST 1048576: true; the input reads as it did. -/
def engineClearsUptoRow : OpenClaim := { program := "ytdnodlgebpnfoaagreat", sum := "36d276d4533195cfadfa94f825f647da2692e48721be8448b7ef7fdacc6173f1", func := "swashplate/swashplatelaw03.EngineClears", spec := "engineClears", unfollowed := true, recurses := true, plainKeys := false, apart := false, narrowed := true }
def EngineClearsUptoSaid : Prop := engineClearsUptoRow.holds Tryz.pinned (OpenSpec.upto engineClearsSpec)

/-- 'swashplatelaw03.EngineMoment', WHERE WHAT IT READS IS OF BULK AT MOST 1048576: true; the input reads as it did. -/
def engineMomentUptoRow : OpenClaim := { program := "ytdnodlgebpnfoaagreat", sum := "36d276d4533195cfadfa94f825f647da2692e48721be8448b7ef7fdacc6173f1", func := "swashplate/swashplatelaw03.EngineMoment", spec := "engineMoment", unfollowed := true, recurses := true, plainKeys := false, apart := false, narrowed := true }
def EngineMomentUptoSaid : Prop := engineMomentUptoRow.holds Tryz.pinned (OpenSpec.upto engineMomentSpec)

/-- 'swashplatelaw03.EngineHeaviest', WHERE WHAT IT READS IS OF BULK AT MOST 1048576: true; the input reads as it did. -/
def engineHeaviestUptoRow : OpenClaim := { program := "ytdnodlgebpnfoaagreat", sum := "36d276d4533195cfadfa94f825f647da2692e48721be8448b7ef7fdacc6173f1", func := "swashplate/swashplatelaw03.EngineHeaviest", spec := "engineHeaviest", unfollowed := true, recurses := true, plainKeys := false, apart := false, narrowed := true }
def EngineHeaviestUptoSaid : Prop := engineHeaviestUptoRow.holds Tryz.pinned (OpenSpec.upto engineHeaviestSpec)

/-- 'swashplatelaw03.EngineDecides', WHERE WHAT IT READS IS OF BULK AT MOST 1048576: true; the input reads as it did. -/
def engineDecidesUptoRow : OpenClaim := { program := "ytdnodlgebpnfoaagreat", sum := "36d276d4533195cfadfa94f825f647da2692e48721be8448b7ef7fdacc6173f1", func := "swashplate/swashplatelaw03.EngineDecides", spec := "engineDecides", unfollowed := true, recurses := true, plainKeys := false, apart := false, narrowed := true }
def EngineDecidesUptoSaid : Prop := engineDecidesUptoRow.holds Tryz.pinned (OpenSpec.upto engineDecidesSpec)

/-- 'swashplatelaw03.EngineLeast', WHERE WHAT IT READS IS OF BULK AT MOST 1048576: true; the input reads as it did. -/
def engineLeastUptoRow : OpenClaim := { program := "ytdnodlgebpnfoaagreat", sum := "36d276d4533195cfadfa94f825f647da2692e48721be8448b7ef7fdacc6173f1", func := "swashplate/swashplatelaw03.EngineLeast", spec := "engineLeast", unfollowed := true, recurses := true, plainKeys := false, apart := false, narrowed := true }
def EngineLeastUptoSaid : Prop := engineLeastUptoRow.holds Tryz.pinned (OpenSpec.upto engineLeastSpec)

end Rows
end Go.Proofs.YtdnodlgebpnfoaaGreat
