/-
  No cell of these rows narrows 'for every input' (looked for: loops, veiled, ifaces, maps, wideKeys, modest, calm, conditions, laid).
  DERIVED. THE GIVEN ROWS OF THIS SEAT. 16 by the template 'for every input the law returns true; each argument reads behind the call as it read before'; 0 by the template 'total and deterministic' (their statements: YtcgnaokpdlbhbaaTotals.lean).
  GIVEN WITH THE SEED: the statements are not yours to turn. If you find one false, say at which input.
  Laid BY PROGRAM, IN A SANDBOX (cutbox-rows.mjs): the forced cells as the released guide's own fill.sh prints them over the translation 34c6d13e11cd9275… (all of the seat's roots in one cut). By AI agents, Wed Nov 11 2026. No macro, syntax, notation, axiom, sorry.
-/
import Derived.Test.YtcgnaokpdlbhbaaChecked
import GoSem.Claim
import GoSem.ClaimJoined
import GoSem.ClaimMapViews
import Derived.JoinedTies
import Derived.KernelRfl
namespace Go.Proofs.Ytcgnaokpdlbhbaa
/- THE CELL 'sum', in the pinned program and in every row, IS THE sha256 OF THE DUMP (.gsa) THAT YtcgnaokpdlbhbaaProg.lean LOADS. Nothing in Lean hashes anything: it is a label: what it is worth is what the hold of that sum in a sandbox is worth. -/
noncomputable def Try.pinned : Pinned := { name := "ytcgnaokpdlbhbaa", sum := "34c6d13e11cd9275c61b722f9fb4d268e6860b5307aa02fa544ca5bc9a79cad5", checked := Try.checked }
namespace Rows
def none {H : Type} : Left H := { results := [], args := [] }

/-- 'laws.FnExactValidBreaker': WHATEVER THE INPUT: true; the input reads as it did. -/
def fnExactValidBreakerSpec : ChangeSpec := { name := "fnExactValidBreaker", fn := fun _ => fun
  | [d] => { results := [.lit (.bool true)], args := [d] }
  | _ => none }
def fnExactValidBreakerRow : OpenClaim := { program := "ytcgnaokpdlbhbaa", sum := "34c6d13e11cd9275c61b722f9fb4d268e6860b5307aa02fa544ca5bc9a79cad5", func := "loop.example/connectionpool/laws.FnExactValidBreaker", spec := "fnExactValidBreaker", apart := false }
def FnExactValidBreakerSaid : Prop := fnExactValidBreakerRow.holds Try.pinned (OpenSpec.ofChange fnExactValidBreakerSpec)

/-- ITS FALSE NEIGHBOUR: 'it returns false'. Refute it at one input. -/
def fnExactValidBreakerWrong : ChangeSpec := { name := "fnExactValidBreaker", fn := fun _ => fun
  | [d] => { results := [.lit (.bool false)], args := [d] }
  | _ => none }
def FnExactValidBreakerWrongFalsely : Prop := fnExactValidBreakerRow.holds Try.pinned (OpenSpec.ofChange fnExactValidBreakerWrong)

/-- 'laws.FnExactLetsCall': WHATEVER THE INPUT: true; the input reads as it did. -/
def fnExactLetsCallSpec : ChangeSpec := { name := "fnExactLetsCall", fn := fun _ => fun
  | [d1, d2] => { results := [.lit (.bool true)], args := [d1, d2] }
  | _ => none }
def fnExactLetsCallRow : OpenClaim := { program := "ytcgnaokpdlbhbaa", sum := "34c6d13e11cd9275c61b722f9fb4d268e6860b5307aa02fa544ca5bc9a79cad5", func := "loop.example/connectionpool/laws.FnExactLetsCall", spec := "fnExactLetsCall", apart := false }
def FnExactLetsCallSaid : Prop := fnExactLetsCallRow.holds Try.pinned (OpenSpec.ofChange fnExactLetsCallSpec)

/-- ITS FALSE NEIGHBOUR: 'it returns false'. Refute it at one input. -/
def fnExactLetsCallWrong : ChangeSpec := { name := "fnExactLetsCall", fn := fun _ => fun
  | [d1, d2] => { results := [.lit (.bool false)], args := [d1, d2] }
  | _ => none }
def FnExactLetsCallWrongFalsely : Prop := fnExactLetsCallRow.holds Try.pinned (OpenSpec.ofChange fnExactLetsCallWrong)

/-- 'laws.FnValidBreaker': WHATEVER THE INPUT: true; the input reads as it did. -/
def fnValidBreakerSpec : ChangeSpec := { name := "fnValidBreaker", fn := fun _ => fun
  | [d] => { results := [.lit (.bool true)], args := [d] }
  | _ => none }
def fnValidBreakerRow : OpenClaim := { program := "ytcgnaokpdlbhbaa", sum := "34c6d13e11cd9275c61b722f9fb4d268e6860b5307aa02fa544ca5bc9a79cad5", func := "loop.example/connectionpool/laws.FnValidBreaker", spec := "fnValidBreaker", apart := false }
def FnValidBreakerSaid : Prop := fnValidBreakerRow.holds Try.pinned (OpenSpec.ofChange fnValidBreakerSpec)

/-- ITS FALSE NEIGHBOUR: 'it returns false'. Refute it at one input. -/
def fnValidBreakerWrong : ChangeSpec := { name := "fnValidBreaker", fn := fun _ => fun
  | [d] => { results := [.lit (.bool false)], args := [d] }
  | _ => none }
def FnValidBreakerWrongFalsely : Prop := fnValidBreakerRow.holds Try.pinned (OpenSpec.ofChange fnValidBreakerWrong)

/-- 'laws.FnLetsCall': WHATEVER THE INPUT: true; the input reads as it did. -/
def fnLetsCallSpec : ChangeSpec := { name := "fnLetsCall", fn := fun _ => fun
  | [d] => { results := [.lit (.bool true)], args := [d] }
  | _ => none }
def fnLetsCallRow : OpenClaim := { program := "ytcgnaokpdlbhbaa", sum := "34c6d13e11cd9275c61b722f9fb4d268e6860b5307aa02fa544ca5bc9a79cad5", func := "loop.example/connectionpool/laws.FnLetsCall", spec := "fnLetsCall", apart := false }
def FnLetsCallSaid : Prop := fnLetsCallRow.holds Try.pinned (OpenSpec.ofChange fnLetsCallSpec)

/-- ITS FALSE NEIGHBOUR: 'it returns false'. Refute it at one input. -/
def fnLetsCallWrong : ChangeSpec := { name := "fnLetsCall", fn := fun _ => fun
  | [d] => { results := [.lit (.bool false)], args := [d] }
  | _ => none }
def FnLetsCallWrongFalsely : Prop := fnLetsCallRow.holds Try.pinned (OpenSpec.ofChange fnLetsCallWrong)

/-- 'laws.FnExactBeginCall': WHATEVER THE INPUT: true; the input reads as it did. -/
def fnExactBeginCallSpec : ChangeSpec := { name := "fnExactBeginCall", fn := fun _ => fun
  | [d1, d2] => { results := [.lit (.bool true)], args := [d1, d2] }
  | _ => none }
def fnExactBeginCallRow : OpenClaim := { program := "ytcgnaokpdlbhbaa", sum := "34c6d13e11cd9275c61b722f9fb4d268e6860b5307aa02fa544ca5bc9a79cad5", func := "loop.example/connectionpool/laws.FnExactBeginCall", spec := "fnExactBeginCall", apart := false }
def FnExactBeginCallSaid : Prop := fnExactBeginCallRow.holds Try.pinned (OpenSpec.ofChange fnExactBeginCallSpec)

/-- ITS FALSE NEIGHBOUR: 'it returns false'. Refute it at one input. -/
def fnExactBeginCallWrong : ChangeSpec := { name := "fnExactBeginCall", fn := fun _ => fun
  | [d1, d2] => { results := [.lit (.bool false)], args := [d1, d2] }
  | _ => none }
def FnExactBeginCallWrongFalsely : Prop := fnExactBeginCallRow.holds Try.pinned (OpenSpec.ofChange fnExactBeginCallWrong)

/-- 'laws.FnExactEndCall': WHATEVER THE INPUT: true; the input reads as it did. -/
def fnExactEndCallSpec : ChangeSpec := { name := "fnExactEndCall", fn := fun _ => fun
  | [d1, d2, d3] => { results := [.lit (.bool true)], args := [d1, d2, d3] }
  | _ => none }
def fnExactEndCallRow : OpenClaim := { program := "ytcgnaokpdlbhbaa", sum := "34c6d13e11cd9275c61b722f9fb4d268e6860b5307aa02fa544ca5bc9a79cad5", func := "loop.example/connectionpool/laws.FnExactEndCall", spec := "fnExactEndCall", apart := false }
def FnExactEndCallSaid : Prop := fnExactEndCallRow.holds Try.pinned (OpenSpec.ofChange fnExactEndCallSpec)

/-- ITS FALSE NEIGHBOUR: 'it returns false'. Refute it at one input. -/
def fnExactEndCallWrong : ChangeSpec := { name := "fnExactEndCall", fn := fun _ => fun
  | [d1, d2, d3] => { results := [.lit (.bool false)], args := [d1, d2, d3] }
  | _ => none }
def FnExactEndCallWrongFalsely : Prop := fnExactEndCallRow.holds Try.pinned (OpenSpec.ofChange fnExactEndCallWrong)

/-- 'laws.FnBeginCall': WHATEVER THE INPUT: true; the input reads as it did. -/
def fnBeginCallSpec : ChangeSpec := { name := "fnBeginCall", fn := fun _ => fun
  | [d] => { results := [.lit (.bool true)], args := [d] }
  | _ => none }
def fnBeginCallRow : OpenClaim := { program := "ytcgnaokpdlbhbaa", sum := "34c6d13e11cd9275c61b722f9fb4d268e6860b5307aa02fa544ca5bc9a79cad5", func := "loop.example/connectionpool/laws.FnBeginCall", spec := "fnBeginCall", apart := false }
def FnBeginCallSaid : Prop := fnBeginCallRow.holds Try.pinned (OpenSpec.ofChange fnBeginCallSpec)

/-- ITS FALSE NEIGHBOUR: 'it returns false'. Refute it at one input. -/
def fnBeginCallWrong : ChangeSpec := { name := "fnBeginCall", fn := fun _ => fun
  | [d] => { results := [.lit (.bool false)], args := [d] }
  | _ => none }
def FnBeginCallWrongFalsely : Prop := fnBeginCallRow.holds Try.pinned (OpenSpec.ofChange fnBeginCallWrong)

/-- 'laws.FnBeginCallLets': WHATEVER THE INPUT: true; the input reads as it did. -/
def fnBeginCallLetsSpec : ChangeSpec := { name := "fnBeginCallLets", fn := fun _ => fun
  | [d] => { results := [.lit (.bool true)], args := [d] }
  | _ => none }
def fnBeginCallLetsRow : OpenClaim := { program := "ytcgnaokpdlbhbaa", sum := "34c6d13e11cd9275c61b722f9fb4d268e6860b5307aa02fa544ca5bc9a79cad5", func := "loop.example/connectionpool/laws.FnBeginCallLets", spec := "fnBeginCallLets", apart := false }
def FnBeginCallLetsSaid : Prop := fnBeginCallLetsRow.holds Try.pinned (OpenSpec.ofChange fnBeginCallLetsSpec)

/-- ITS FALSE NEIGHBOUR: 'it returns false'. Refute it at one input. -/
def fnBeginCallLetsWrong : ChangeSpec := { name := "fnBeginCallLets", fn := fun _ => fun
  | [d] => { results := [.lit (.bool false)], args := [d] }
  | _ => none }
def FnBeginCallLetsWrongFalsely : Prop := fnBeginCallLetsRow.holds Try.pinned (OpenSpec.ofChange fnBeginCallLetsWrong)

/-- 'laws.FnEndCall': WHATEVER THE INPUT: true; the input reads as it did. -/
def fnEndCallSpec : ChangeSpec := { name := "fnEndCall", fn := fun _ => fun
  | [d] => { results := [.lit (.bool true)], args := [d] }
  | _ => none }
def fnEndCallRow : OpenClaim := { program := "ytcgnaokpdlbhbaa", sum := "34c6d13e11cd9275c61b722f9fb4d268e6860b5307aa02fa544ca5bc9a79cad5", func := "loop.example/connectionpool/laws.FnEndCall", spec := "fnEndCall", apart := false }
def FnEndCallSaid : Prop := fnEndCallRow.holds Try.pinned (OpenSpec.ofChange fnEndCallSpec)

/-- ITS FALSE NEIGHBOUR: 'it returns false'. Refute it at one input. -/
def fnEndCallWrong : ChangeSpec := { name := "fnEndCall", fn := fun _ => fun
  | [d] => { results := [.lit (.bool false)], args := [d] }
  | _ => none }
def FnEndCallWrongFalsely : Prop := fnEndCallRow.holds Try.pinned (OpenSpec.ofChange fnEndCallWrong)

/-- 'laws.FnEndCallOpen': WHATEVER THE INPUT: true; the input reads as it did. -/
def fnEndCallOpenSpec : ChangeSpec := { name := "fnEndCallOpen", fn := fun _ => fun
  | [d] => { results := [.lit (.bool true)], args := [d] }
  | _ => none }
def fnEndCallOpenRow : OpenClaim := { program := "ytcgnaokpdlbhbaa", sum := "34c6d13e11cd9275c61b722f9fb4d268e6860b5307aa02fa544ca5bc9a79cad5", func := "loop.example/connectionpool/laws.FnEndCallOpen", spec := "fnEndCallOpen", apart := false }
def FnEndCallOpenSaid : Prop := fnEndCallOpenRow.holds Try.pinned (OpenSpec.ofChange fnEndCallOpenSpec)

/-- ITS FALSE NEIGHBOUR: 'it returns false'. Refute it at one input. -/
def fnEndCallOpenWrong : ChangeSpec := { name := "fnEndCallOpen", fn := fun _ => fun
  | [d] => { results := [.lit (.bool false)], args := [d] }
  | _ => none }
def FnEndCallOpenWrongFalsely : Prop := fnEndCallOpenRow.holds Try.pinned (OpenSpec.ofChange fnEndCallOpenWrong)

/-- 'laws.FnEndCallTry': WHATEVER THE INPUT: true; the input reads as it did. -/
def fnEndCallTrySpec : ChangeSpec := { name := "fnEndCallTry", fn := fun _ => fun
  | [d] => { results := [.lit (.bool true)], args := [d] }
  | _ => none }
def fnEndCallTryRow : OpenClaim := { program := "ytcgnaokpdlbhbaa", sum := "34c6d13e11cd9275c61b722f9fb4d268e6860b5307aa02fa544ca5bc9a79cad5", func := "loop.example/connectionpool/laws.FnEndCallTry", spec := "fnEndCallTry", apart := false }
def FnEndCallTrySaid : Prop := fnEndCallTryRow.holds Try.pinned (OpenSpec.ofChange fnEndCallTrySpec)

/-- ITS FALSE NEIGHBOUR: 'it returns false'. Refute it at one input. -/
def fnEndCallTryWrong : ChangeSpec := { name := "fnEndCallTry", fn := fun _ => fun
  | [d] => { results := [.lit (.bool false)], args := [d] }
  | _ => none }
def FnEndCallTryWrongFalsely : Prop := fnEndCallTryRow.holds Try.pinned (OpenSpec.ofChange fnEndCallTryWrong)

/-- 'laws.FnBeginCallTwice': WHATEVER THE INPUT: true; the input reads as it did. -/
def fnBeginCallTwiceSpec : ChangeSpec := { name := "fnBeginCallTwice", fn := fun _ => fun
  | [d] => { results := [.lit (.bool true)], args := [d] }
  | _ => none }
def fnBeginCallTwiceRow : OpenClaim := { program := "ytcgnaokpdlbhbaa", sum := "34c6d13e11cd9275c61b722f9fb4d268e6860b5307aa02fa544ca5bc9a79cad5", func := "loop.example/connectionpool/laws.FnBeginCallTwice", spec := "fnBeginCallTwice", apart := false }
def FnBeginCallTwiceSaid : Prop := fnBeginCallTwiceRow.holds Try.pinned (OpenSpec.ofChange fnBeginCallTwiceSpec)

/-- ITS FALSE NEIGHBOUR: 'it returns false'. Refute it at one input. -/
def fnBeginCallTwiceWrong : ChangeSpec := { name := "fnBeginCallTwice", fn := fun _ => fun
  | [d] => { results := [.lit (.bool false)], args := [d] }
  | _ => none }
def FnBeginCallTwiceWrongFalsely : Prop := fnBeginCallTwiceRow.holds Try.pinned (OpenSpec.ofChange fnBeginCallTwiceWrong)

/-- 'laws.FnExactBreakerPath': WHATEVER THE INPUT: true; the input reads as it did. -/
def fnExactBreakerPathSpec : ChangeSpec := { name := "fnExactBreakerPath", fn := fun _ => fun
  | [d1, d2, d3] => { results := [.lit (.bool true)], args := [d1, d2, d3] }
  | _ => none }
def fnExactBreakerPathRow : OpenClaim := { program := "ytcgnaokpdlbhbaa", sum := "34c6d13e11cd9275c61b722f9fb4d268e6860b5307aa02fa544ca5bc9a79cad5", func := "loop.example/connectionpool/laws.FnExactBreakerPath", spec := "fnExactBreakerPath", apart := false }
def FnExactBreakerPathSaid : Prop := fnExactBreakerPathRow.holds Try.pinned (OpenSpec.ofChange fnExactBreakerPathSpec)

/-- ITS FALSE NEIGHBOUR: 'it returns false'. Refute it at one input. -/
def fnExactBreakerPathWrong : ChangeSpec := { name := "fnExactBreakerPath", fn := fun _ => fun
  | [d1, d2, d3] => { results := [.lit (.bool false)], args := [d1, d2, d3] }
  | _ => none }
def FnExactBreakerPathWrongFalsely : Prop := fnExactBreakerPathRow.holds Try.pinned (OpenSpec.ofChange fnExactBreakerPathWrong)

/-- 'laws.FnBreakerPath': WHATEVER THE INPUT: true; the input reads as it did. -/
def fnBreakerPathSpec : ChangeSpec := { name := "fnBreakerPath", fn := fun _ => fun
  | [d] => { results := [.lit (.bool true)], args := [d] }
  | _ => none }
def fnBreakerPathRow : OpenClaim := { program := "ytcgnaokpdlbhbaa", sum := "34c6d13e11cd9275c61b722f9fb4d268e6860b5307aa02fa544ca5bc9a79cad5", func := "loop.example/connectionpool/laws.FnBreakerPath", spec := "fnBreakerPath", apart := false }
def FnBreakerPathSaid : Prop := fnBreakerPathRow.holds Try.pinned (OpenSpec.ofChange fnBreakerPathSpec)

/-- ITS FALSE NEIGHBOUR: 'it returns false'. Refute it at one input. -/
def fnBreakerPathWrong : ChangeSpec := { name := "fnBreakerPath", fn := fun _ => fun
  | [d] => { results := [.lit (.bool false)], args := [d] }
  | _ => none }
def FnBreakerPathWrongFalsely : Prop := fnBreakerPathRow.holds Try.pinned (OpenSpec.ofChange fnBreakerPathWrong)

/-- 'laws.FnBreakerPathGood': WHATEVER THE INPUT: true; the input reads as it did. -/
def fnBreakerPathGoodSpec : ChangeSpec := { name := "fnBreakerPathGood", fn := fun _ => fun
  | [d] => { results := [.lit (.bool true)], args := [d] }
  | _ => none }
def fnBreakerPathGoodRow : OpenClaim := { program := "ytcgnaokpdlbhbaa", sum := "34c6d13e11cd9275c61b722f9fb4d268e6860b5307aa02fa544ca5bc9a79cad5", func := "loop.example/connectionpool/laws.FnBreakerPathGood", spec := "fnBreakerPathGood", apart := false }
def FnBreakerPathGoodSaid : Prop := fnBreakerPathGoodRow.holds Try.pinned (OpenSpec.ofChange fnBreakerPathGoodSpec)

/-- ITS FALSE NEIGHBOUR: 'it returns false'. Refute it at one input. -/
def fnBreakerPathGoodWrong : ChangeSpec := { name := "fnBreakerPathGood", fn := fun _ => fun
  | [d] => { results := [.lit (.bool false)], args := [d] }
  | _ => none }
def FnBreakerPathGoodWrongFalsely : Prop := fnBreakerPathGoodRow.holds Try.pinned (OpenSpec.ofChange fnBreakerPathGoodWrong)

/-- 'laws.FnBreakerPathStep': WHATEVER THE INPUT: true; the input reads as it did. -/
def fnBreakerPathStepSpec : ChangeSpec := { name := "fnBreakerPathStep", fn := fun _ => fun
  | [d] => { results := [.lit (.bool true)], args := [d] }
  | _ => none }
def fnBreakerPathStepRow : OpenClaim := { program := "ytcgnaokpdlbhbaa", sum := "34c6d13e11cd9275c61b722f9fb4d268e6860b5307aa02fa544ca5bc9a79cad5", func := "loop.example/connectionpool/laws.FnBreakerPathStep", spec := "fnBreakerPathStep", apart := false }
def FnBreakerPathStepSaid : Prop := fnBreakerPathStepRow.holds Try.pinned (OpenSpec.ofChange fnBreakerPathStepSpec)

/-- ITS FALSE NEIGHBOUR: 'it returns false'. Refute it at one input. -/
def fnBreakerPathStepWrong : ChangeSpec := { name := "fnBreakerPathStep", fn := fun _ => fun
  | [d] => { results := [.lit (.bool false)], args := [d] }
  | _ => none }
def FnBreakerPathStepWrongFalsely : Prop := fnBreakerPathStepRow.holds Try.pinned (OpenSpec.ofChange fnBreakerPathStepWrong)

/- THE SECOND FORM. 'bulk': how many values and letters a reading holds, each counted each time it is reached (what is shared counts as often as it is met; a slice's spare places count too). A statement '..UptoSaid' is the law's where the arguments, and the package variables that the reading takes, are together of bulk at most 1048576: NARROWER than '..Said'. Prove '..Said' where nothing that the law and all that it calls make is longer than what came in: it says more and counts as full. Else prove '..UptoSaid'. A law counts once. -/
mutual
def uptoBulk {H : Type} : DataW H → Nat
  | .lit (.string bytes) => bytes.length + 1
  | .lit _ => 1
  | .nil => 1
  | .ptr d => uptoBulk d + 1
  | .slice elems spare => uptoBulkAll elems + uptoBulkAll spare + 1
  | .agg parts => uptoBulkAll parts + 1
  | .iface _ d => uptoBulk d + 1
  | .map entries => uptoBulkEntries entries + 1
  | .held _ => 1
def uptoBulkAll {H : Type} : List (DataW H) → Nat
  | [] => 0
  | d :: r => uptoBulk d + uptoBulkAll r
def uptoBulkEntries {H : Type} : List (Lit × DataW H) → Nat
  | [] => 0
  | x :: r => uptoBulkEntry x + uptoBulkEntries r
def uptoBulkEntry {H : Type} : Lit × DataW H → Nat
  | (.string bytes, d) => bytes.length + uptoBulk d + 1
  | (_, d) => uptoBulk d + 1
 end
def uptoSmall : (H : Type) → List (DataW H) → Bool := fun _ ds => decide (uptoBulkAll ds ≤ 1048576)
def OpenSpec.upto (s : _root_.Go.ChangeSpec) : _root_.Go.OpenSpec := { _root_.Go.OpenSpec.ofChange s with cond := some uptoSmall }

/-- 'laws.FnExactValidBreaker', WHERE WHAT IT READS IS OF BULK AT MOST 1048576: true; the input reads as it did. -/
def fnExactValidBreakerUptoRow : OpenClaim := { program := "ytcgnaokpdlbhbaa", sum := "34c6d13e11cd9275c61b722f9fb4d268e6860b5307aa02fa544ca5bc9a79cad5", func := "loop.example/connectionpool/laws.FnExactValidBreaker", spec := "fnExactValidBreaker", apart := false, narrowed := true }
def FnExactValidBreakerUptoSaid : Prop := fnExactValidBreakerUptoRow.holds Try.pinned (OpenSpec.upto fnExactValidBreakerSpec)

/-- 'laws.FnExactLetsCall', WHERE WHAT IT READS IS OF BULK AT MOST 1048576: true; the input reads as it did. -/
def fnExactLetsCallUptoRow : OpenClaim := { program := "ytcgnaokpdlbhbaa", sum := "34c6d13e11cd9275c61b722f9fb4d268e6860b5307aa02fa544ca5bc9a79cad5", func := "loop.example/connectionpool/laws.FnExactLetsCall", spec := "fnExactLetsCall", apart := false, narrowed := true }
def FnExactLetsCallUptoSaid : Prop := fnExactLetsCallUptoRow.holds Try.pinned (OpenSpec.upto fnExactLetsCallSpec)

/-- 'laws.FnValidBreaker', WHERE WHAT IT READS IS OF BULK AT MOST 1048576: true; the input reads as it did. -/
def fnValidBreakerUptoRow : OpenClaim := { program := "ytcgnaokpdlbhbaa", sum := "34c6d13e11cd9275c61b722f9fb4d268e6860b5307aa02fa544ca5bc9a79cad5", func := "loop.example/connectionpool/laws.FnValidBreaker", spec := "fnValidBreaker", apart := false, narrowed := true }
def FnValidBreakerUptoSaid : Prop := fnValidBreakerUptoRow.holds Try.pinned (OpenSpec.upto fnValidBreakerSpec)

/-- 'laws.FnLetsCall', WHERE WHAT IT READS IS OF BULK AT MOST 1048576: true; the input reads as it did. -/
def fnLetsCallUptoRow : OpenClaim := { program := "ytcgnaokpdlbhbaa", sum := "34c6d13e11cd9275c61b722f9fb4d268e6860b5307aa02fa544ca5bc9a79cad5", func := "loop.example/connectionpool/laws.FnLetsCall", spec := "fnLetsCall", apart := false, narrowed := true }
def FnLetsCallUptoSaid : Prop := fnLetsCallUptoRow.holds Try.pinned (OpenSpec.upto fnLetsCallSpec)

/-- 'laws.FnExactBeginCall', WHERE WHAT IT READS IS OF BULK AT MOST 1048576: true; the input reads as it did. -/
def fnExactBeginCallUptoRow : OpenClaim := { program := "ytcgnaokpdlbhbaa", sum := "34c6d13e11cd9275c61b722f9fb4d268e6860b5307aa02fa544ca5bc9a79cad5", func := "loop.example/connectionpool/laws.FnExactBeginCall", spec := "fnExactBeginCall", apart := false, narrowed := true }
def FnExactBeginCallUptoSaid : Prop := fnExactBeginCallUptoRow.holds Try.pinned (OpenSpec.upto fnExactBeginCallSpec)

/-- 'laws.FnExactEndCall', WHERE WHAT IT READS IS OF BULK AT MOST 1048576: true; the input reads as it did. -/
def fnExactEndCallUptoRow : OpenClaim := { program := "ytcgnaokpdlbhbaa", sum := "34c6d13e11cd9275c61b722f9fb4d268e6860b5307aa02fa544ca5bc9a79cad5", func := "loop.example/connectionpool/laws.FnExactEndCall", spec := "fnExactEndCall", apart := false, narrowed := true }
def FnExactEndCallUptoSaid : Prop := fnExactEndCallUptoRow.holds Try.pinned (OpenSpec.upto fnExactEndCallSpec)

/-- 'laws.FnBeginCall', WHERE WHAT IT READS IS OF BULK AT MOST 1048576: true; the input reads as it did. -/
def fnBeginCallUptoRow : OpenClaim := { program := "ytcgnaokpdlbhbaa", sum := "34c6d13e11cd9275c61b722f9fb4d268e6860b5307aa02fa544ca5bc9a79cad5", func := "loop.example/connectionpool/laws.FnBeginCall", spec := "fnBeginCall", apart := false, narrowed := true }
def FnBeginCallUptoSaid : Prop := fnBeginCallUptoRow.holds Try.pinned (OpenSpec.upto fnBeginCallSpec)

/-- 'laws.FnBeginCallLets', WHERE WHAT IT READS IS OF BULK AT MOST 1048576: true; the input reads as it did. -/
def fnBeginCallLetsUptoRow : OpenClaim := { program := "ytcgnaokpdlbhbaa", sum := "34c6d13e11cd9275c61b722f9fb4d268e6860b5307aa02fa544ca5bc9a79cad5", func := "loop.example/connectionpool/laws.FnBeginCallLets", spec := "fnBeginCallLets", apart := false, narrowed := true }
def FnBeginCallLetsUptoSaid : Prop := fnBeginCallLetsUptoRow.holds Try.pinned (OpenSpec.upto fnBeginCallLetsSpec)

/-- 'laws.FnEndCall', WHERE WHAT IT READS IS OF BULK AT MOST 1048576: true; the input reads as it did. -/
def fnEndCallUptoRow : OpenClaim := { program := "ytcgnaokpdlbhbaa", sum := "34c6d13e11cd9275c61b722f9fb4d268e6860b5307aa02fa544ca5bc9a79cad5", func := "loop.example/connectionpool/laws.FnEndCall", spec := "fnEndCall", apart := false, narrowed := true }
def FnEndCallUptoSaid : Prop := fnEndCallUptoRow.holds Try.pinned (OpenSpec.upto fnEndCallSpec)

/-- 'laws.FnEndCallOpen', WHERE WHAT IT READS IS OF BULK AT MOST 1048576: true; the input reads as it did. -/
def fnEndCallOpenUptoRow : OpenClaim := { program := "ytcgnaokpdlbhbaa", sum := "34c6d13e11cd9275c61b722f9fb4d268e6860b5307aa02fa544ca5bc9a79cad5", func := "loop.example/connectionpool/laws.FnEndCallOpen", spec := "fnEndCallOpen", apart := false, narrowed := true }
def FnEndCallOpenUptoSaid : Prop := fnEndCallOpenUptoRow.holds Try.pinned (OpenSpec.upto fnEndCallOpenSpec)

/-- 'laws.FnEndCallTry', WHERE WHAT IT READS IS OF BULK AT MOST 1048576: true; the input reads as it did. -/
def fnEndCallTryUptoRow : OpenClaim := { program := "ytcgnaokpdlbhbaa", sum := "34c6d13e11cd9275c61b722f9fb4d268e6860b5307aa02fa544ca5bc9a79cad5", func := "loop.example/connectionpool/laws.FnEndCallTry", spec := "fnEndCallTry", apart := false, narrowed := true }
def FnEndCallTryUptoSaid : Prop := fnEndCallTryUptoRow.holds Try.pinned (OpenSpec.upto fnEndCallTrySpec)

/-- 'laws.FnBeginCallTwice', WHERE WHAT IT READS IS OF BULK AT MOST 1048576: true; the input reads as it did. -/
def fnBeginCallTwiceUptoRow : OpenClaim := { program := "ytcgnaokpdlbhbaa", sum := "34c6d13e11cd9275c61b722f9fb4d268e6860b5307aa02fa544ca5bc9a79cad5", func := "loop.example/connectionpool/laws.FnBeginCallTwice", spec := "fnBeginCallTwice", apart := false, narrowed := true }
def FnBeginCallTwiceUptoSaid : Prop := fnBeginCallTwiceUptoRow.holds Try.pinned (OpenSpec.upto fnBeginCallTwiceSpec)

/-- 'laws.FnExactBreakerPath', WHERE WHAT IT READS IS OF BULK AT MOST 1048576: true; the input reads as it did. -/
def fnExactBreakerPathUptoRow : OpenClaim := { program := "ytcgnaokpdlbhbaa", sum := "34c6d13e11cd9275c61b722f9fb4d268e6860b5307aa02fa544ca5bc9a79cad5", func := "loop.example/connectionpool/laws.FnExactBreakerPath", spec := "fnExactBreakerPath", apart := false, narrowed := true }
def FnExactBreakerPathUptoSaid : Prop := fnExactBreakerPathUptoRow.holds Try.pinned (OpenSpec.upto fnExactBreakerPathSpec)

/-- 'laws.FnBreakerPath', WHERE WHAT IT READS IS OF BULK AT MOST 1048576: true; the input reads as it did. -/
def fnBreakerPathUptoRow : OpenClaim := { program := "ytcgnaokpdlbhbaa", sum := "34c6d13e11cd9275c61b722f9fb4d268e6860b5307aa02fa544ca5bc9a79cad5", func := "loop.example/connectionpool/laws.FnBreakerPath", spec := "fnBreakerPath", apart := false, narrowed := true }
def FnBreakerPathUptoSaid : Prop := fnBreakerPathUptoRow.holds Try.pinned (OpenSpec.upto fnBreakerPathSpec)

/-- 'laws.FnBreakerPathGood', WHERE WHAT IT READS IS OF BULK AT MOST 1048576: true; the input reads as it did. -/
def fnBreakerPathGoodUptoRow : OpenClaim := { program := "ytcgnaokpdlbhbaa", sum := "34c6d13e11cd9275c61b722f9fb4d268e6860b5307aa02fa544ca5bc9a79cad5", func := "loop.example/connectionpool/laws.FnBreakerPathGood", spec := "fnBreakerPathGood", apart := false, narrowed := true }
def FnBreakerPathGoodUptoSaid : Prop := fnBreakerPathGoodUptoRow.holds Try.pinned (OpenSpec.upto fnBreakerPathGoodSpec)

/-- 'laws.FnBreakerPathStep', WHERE WHAT IT READS IS OF BULK AT MOST 1048576: true; the input reads as it did. -/
def fnBreakerPathStepUptoRow : OpenClaim := { program := "ytcgnaokpdlbhbaa", sum := "34c6d13e11cd9275c61b722f9fb4d268e6860b5307aa02fa544ca5bc9a79cad5", func := "loop.example/connectionpool/laws.FnBreakerPathStep", spec := "fnBreakerPathStep", apart := false, narrowed := true }
def FnBreakerPathStepUptoSaid : Prop := fnBreakerPathStepUptoRow.holds Try.pinned (OpenSpec.upto fnBreakerPathStepSpec)

end Rows
end Go.Proofs.Ytcgnaokpdlbhbaa
