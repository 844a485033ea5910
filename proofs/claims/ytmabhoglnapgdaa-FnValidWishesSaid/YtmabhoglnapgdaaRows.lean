/-
  No cell of these rows narrows 'for every input' (looked for: loops, veiled, ifaces, maps, wideKeys, modest, calm, conditions, laid).
  DERIVED. THE GIVEN ROWS OF THIS SEAT. 17 by the template 'for every input the law returns true; each argument reads behind the call as it read before'; 0 by the template 'total and deterministic' (their statements: YtmabhoglnapgdaaTotals.lean).
  GIVEN WITH THE SEED: the statements are not yours to turn. If you find one false, say at which input.
  Laid BY PROGRAM, IN A SANDBOX (cutbox-rows.mjs): the forced cells as the released guide's own fill.sh prints them over the translation aad18794b6310568… (all of the seat's roots in one cut). By AI agents, Wed Nov 11 2026. No macro, syntax, notation, axiom, sorry.
-/
import Derived.Test.YtmabhoglnapgdaaChecked
import GoSem.Claim
import GoSem.ClaimJoined
import GoSem.ClaimMapViews
import Derived.JoinedTies
import Derived.KernelRfl
namespace Go.Proofs.Ytmabhoglnapgdaa
/- THE CELL 'sum', in the pinned program and in every row, IS THE sha256 OF THE DUMP (.gsa) THAT YtmabhoglnapgdaaProg.lean LOADS. Nothing in Lean hashes anything: it is a label: what it is worth is what the hold of that sum in a sandbox is worth. -/
noncomputable def Try.pinned : Pinned := { name := "ytmabhoglnapgdaa", sum := "aad18794b6310568fd3ab21371ca1c427b3c2b258d89a2652599acfdeba1636c", checked := Try.checked }
namespace Rows
def none {H : Type} : Left H := { results := [], args := [] }

/-- 'laws.FnValidWishes': WHATEVER THE INPUT: true; the input reads as it did. -/
def fnValidWishesSpec : ChangeSpec := { name := "fnValidWishes", fn := fun _ => fun
  | [d] => { results := [.lit (.bool true)], args := [d] }
  | _ => none }
def fnValidWishesRow : OpenClaim := { program := "ytmabhoglnapgdaa", sum := "aad18794b6310568fd3ab21371ca1c427b3c2b258d89a2652599acfdeba1636c", func := "loop.example/connectionpool/laws.FnValidWishes", spec := "fnValidWishes", apart := false }
def FnValidWishesSaid : Prop := fnValidWishesRow.holds Try.pinned (OpenSpec.ofChange fnValidWishesSpec)

/-- ITS FALSE NEIGHBOUR: 'it returns false'. Refute it at one input. -/
def fnValidWishesWrong : ChangeSpec := { name := "fnValidWishes", fn := fun _ => fun
  | [d] => { results := [.lit (.bool false)], args := [d] }
  | _ => none }
def FnValidWishesWrongFalsely : Prop := fnValidWishesRow.holds Try.pinned (OpenSpec.ofChange fnValidWishesWrong)

/-- 'laws.FnValidWishesMove': WHATEVER THE INPUT: true; the input reads as it did. -/
def fnValidWishesMoveSpec : ChangeSpec := { name := "fnValidWishesMove", fn := fun _ => fun
  | [d] => { results := [.lit (.bool true)], args := [d] }
  | _ => none }
def fnValidWishesMoveRow : OpenClaim := { program := "ytmabhoglnapgdaa", sum := "aad18794b6310568fd3ab21371ca1c427b3c2b258d89a2652599acfdeba1636c", func := "loop.example/connectionpool/laws.FnValidWishesMove", spec := "fnValidWishesMove", apart := false }
def FnValidWishesMoveSaid : Prop := fnValidWishesMoveRow.holds Try.pinned (OpenSpec.ofChange fnValidWishesMoveSpec)

/-- ITS FALSE NEIGHBOUR: 'it returns false'. Refute it at one input. -/
def fnValidWishesMoveWrong : ChangeSpec := { name := "fnValidWishesMove", fn := fun _ => fun
  | [d] => { results := [.lit (.bool false)], args := [d] }
  | _ => none }
def FnValidWishesMoveWrongFalsely : Prop := fnValidWishesMoveRow.holds Try.pinned (OpenSpec.ofChange fnValidWishesMoveWrong)

/-- 'laws.FnExactValidWishes': WHATEVER THE INPUT: true; the input reads as it did. -/
def fnExactValidWishesSpec : ChangeSpec := { name := "fnExactValidWishes", fn := fun _ => fun
  | [d] => { results := [.lit (.bool true)], args := [d] }
  | _ => none }
def fnExactValidWishesRow : OpenClaim := { program := "ytmabhoglnapgdaa", sum := "aad18794b6310568fd3ab21371ca1c427b3c2b258d89a2652599acfdeba1636c", func := "loop.example/connectionpool/laws.FnExactValidWishes", spec := "fnExactValidWishes", apart := false }
def FnExactValidWishesSaid : Prop := fnExactValidWishesRow.holds Try.pinned (OpenSpec.ofChange fnExactValidWishesSpec)

/-- ITS FALSE NEIGHBOUR: 'it returns false'. Refute it at one input. -/
def fnExactValidWishesWrong : ChangeSpec := { name := "fnExactValidWishes", fn := fun _ => fun
  | [d] => { results := [.lit (.bool false)], args := [d] }
  | _ => none }
def FnExactValidWishesWrongFalsely : Prop := fnExactValidWishesRow.holds Try.pinned (OpenSpec.ofChange fnExactValidWishesWrong)

/-- 'laws.FnServeTimes': WHATEVER THE INPUT: true; the input reads as it did. -/
def fnServeTimesSpec : ChangeSpec := { name := "fnServeTimes", fn := fun _ => fun
  | [d] => { results := [.lit (.bool true)], args := [d] }
  | _ => none }
def fnServeTimesRow : OpenClaim := { program := "ytmabhoglnapgdaa", sum := "aad18794b6310568fd3ab21371ca1c427b3c2b258d89a2652599acfdeba1636c", func := "loop.example/connectionpool/laws.FnServeTimes", spec := "fnServeTimes", apart := false }
def FnServeTimesSaid : Prop := fnServeTimesRow.holds Try.pinned (OpenSpec.ofChange fnServeTimesSpec)

/-- ITS FALSE NEIGHBOUR: 'it returns false'. Refute it at one input. -/
def fnServeTimesWrong : ChangeSpec := { name := "fnServeTimes", fn := fun _ => fun
  | [d] => { results := [.lit (.bool false)], args := [d] }
  | _ => none }
def FnServeTimesWrongFalsely : Prop := fnServeTimesRow.holds Try.pinned (OpenSpec.ofChange fnServeTimesWrong)

/-- 'laws.FnServeTimesMost': WHATEVER THE INPUT: true; the input reads as it did. -/
def fnServeTimesMostSpec : ChangeSpec := { name := "fnServeTimesMost", fn := fun _ => fun
  | [d] => { results := [.lit (.bool true)], args := [d] }
  | _ => none }
def fnServeTimesMostRow : OpenClaim := { program := "ytmabhoglnapgdaa", sum := "aad18794b6310568fd3ab21371ca1c427b3c2b258d89a2652599acfdeba1636c", func := "loop.example/connectionpool/laws.FnServeTimesMost", spec := "fnServeTimesMost", apart := false }
def FnServeTimesMostSaid : Prop := fnServeTimesMostRow.holds Try.pinned (OpenSpec.ofChange fnServeTimesMostSpec)

/-- ITS FALSE NEIGHBOUR: 'it returns false'. Refute it at one input. -/
def fnServeTimesMostWrong : ChangeSpec := { name := "fnServeTimesMost", fn := fun _ => fun
  | [d] => { results := [.lit (.bool false)], args := [d] }
  | _ => none }
def FnServeTimesMostWrongFalsely : Prop := fnServeTimesMostRow.holds Try.pinned (OpenSpec.ofChange fnServeTimesMostWrong)

/-- 'laws.FnServeTimesShort': WHATEVER THE INPUT: true; the input reads as it did. -/
def fnServeTimesShortSpec : ChangeSpec := { name := "fnServeTimesShort", fn := fun _ => fun
  | [d] => { results := [.lit (.bool true)], args := [d] }
  | _ => none }
def fnServeTimesShortRow : OpenClaim := { program := "ytmabhoglnapgdaa", sum := "aad18794b6310568fd3ab21371ca1c427b3c2b258d89a2652599acfdeba1636c", func := "loop.example/connectionpool/laws.FnServeTimesShort", spec := "fnServeTimesShort", apart := false }
def FnServeTimesShortSaid : Prop := fnServeTimesShortRow.holds Try.pinned (OpenSpec.ofChange fnServeTimesShortSpec)

/-- ITS FALSE NEIGHBOUR: 'it returns false'. Refute it at one input. -/
def fnServeTimesShortWrong : ChangeSpec := { name := "fnServeTimesShort", fn := fun _ => fun
  | [d] => { results := [.lit (.bool false)], args := [d] }
  | _ => none }
def FnServeTimesShortWrongFalsely : Prop := fnServeTimesShortRow.holds Try.pinned (OpenSpec.ofChange fnServeTimesShortWrong)

/-- 'laws.FnLongestWaitShort': WHATEVER THE INPUT: true; the input reads as it did. -/
def fnLongestWaitShortSpec : ChangeSpec := { name := "fnLongestWaitShort", fn := fun _ => fun
  | [d] => { results := [.lit (.bool true)], args := [d] }
  | _ => none }
def fnLongestWaitShortRow : OpenClaim := { program := "ytmabhoglnapgdaa", sum := "aad18794b6310568fd3ab21371ca1c427b3c2b258d89a2652599acfdeba1636c", func := "loop.example/connectionpool/laws.FnLongestWaitShort", spec := "fnLongestWaitShort", apart := false }
def FnLongestWaitShortSaid : Prop := fnLongestWaitShortRow.holds Try.pinned (OpenSpec.ofChange fnLongestWaitShortSpec)

/-- ITS FALSE NEIGHBOUR: 'it returns false'. Refute it at one input. -/
def fnLongestWaitShortWrong : ChangeSpec := { name := "fnLongestWaitShort", fn := fun _ => fun
  | [d] => { results := [.lit (.bool false)], args := [d] }
  | _ => none }
def FnLongestWaitShortWrongFalsely : Prop := fnLongestWaitShortRow.holds Try.pinned (OpenSpec.ofChange fnLongestWaitShortWrong)

/-- 'laws.FnExactLongestWait': WHATEVER THE INPUT: true; the input reads as it did. -/
def fnExactLongestWaitSpec : ChangeSpec := { name := "fnExactLongestWait", fn := fun _ => fun
  | [d1, d2] => { results := [.lit (.bool true)], args := [d1, d2] }
  | _ => none }
def fnExactLongestWaitRow : OpenClaim := { program := "ytmabhoglnapgdaa", sum := "aad18794b6310568fd3ab21371ca1c427b3c2b258d89a2652599acfdeba1636c", func := "loop.example/connectionpool/laws.FnExactLongestWait", spec := "fnExactLongestWait", apart := false }
def FnExactLongestWaitSaid : Prop := fnExactLongestWaitRow.holds Try.pinned (OpenSpec.ofChange fnExactLongestWaitSpec)

/-- ITS FALSE NEIGHBOUR: 'it returns false'. Refute it at one input. -/
def fnExactLongestWaitWrong : ChangeSpec := { name := "fnExactLongestWait", fn := fun _ => fun
  | [d1, d2] => { results := [.lit (.bool false)], args := [d1, d2] }
  | _ => none }
def FnExactLongestWaitWrongFalsely : Prop := fnExactLongestWaitRow.holds Try.pinned (OpenSpec.ofChange fnExactLongestWaitWrong)

/-- 'laws.FnLongestWait': WHATEVER THE INPUT: true; the input reads as it did. -/
def fnLongestWaitSpec : ChangeSpec := { name := "fnLongestWait", fn := fun _ => fun
  | [d] => { results := [.lit (.bool true)], args := [d] }
  | _ => none }
def fnLongestWaitRow : OpenClaim := { program := "ytmabhoglnapgdaa", sum := "aad18794b6310568fd3ab21371ca1c427b3c2b258d89a2652599acfdeba1636c", func := "loop.example/connectionpool/laws.FnLongestWait", spec := "fnLongestWait", apart := false }
def FnLongestWaitSaid : Prop := fnLongestWaitRow.holds Try.pinned (OpenSpec.ofChange fnLongestWaitSpec)

/-- ITS FALSE NEIGHBOUR: 'it returns false'. Refute it at one input. -/
def fnLongestWaitWrong : ChangeSpec := { name := "fnLongestWait", fn := fun _ => fun
  | [d] => { results := [.lit (.bool false)], args := [d] }
  | _ => none }
def FnLongestWaitWrongFalsely : Prop := fnLongestWaitRow.holds Try.pinned (OpenSpec.ofChange fnLongestWaitWrong)

/-- 'laws.FnExactCountServed': WHATEVER THE INPUT: true; the input reads as it did. -/
def fnExactCountServedSpec : ChangeSpec := { name := "fnExactCountServed", fn := fun _ => fun
  | [d1, d2] => { results := [.lit (.bool true)], args := [d1, d2] }
  | _ => none }
def fnExactCountServedRow : OpenClaim := { program := "ytmabhoglnapgdaa", sum := "aad18794b6310568fd3ab21371ca1c427b3c2b258d89a2652599acfdeba1636c", func := "loop.example/connectionpool/laws.FnExactCountServed", spec := "fnExactCountServed", apart := false }
def FnExactCountServedSaid : Prop := fnExactCountServedRow.holds Try.pinned (OpenSpec.ofChange fnExactCountServedSpec)

/-- ITS FALSE NEIGHBOUR: 'it returns false'. Refute it at one input. -/
def fnExactCountServedWrong : ChangeSpec := { name := "fnExactCountServed", fn := fun _ => fun
  | [d1, d2] => { results := [.lit (.bool false)], args := [d1, d2] }
  | _ => none }
def FnExactCountServedWrongFalsely : Prop := fnExactCountServedRow.holds Try.pinned (OpenSpec.ofChange fnExactCountServedWrong)

/-- 'laws.FnCountServed': WHATEVER THE INPUT: true; the input reads as it did. -/
def fnCountServedSpec : ChangeSpec := { name := "fnCountServed", fn := fun _ => fun
  | [d] => { results := [.lit (.bool true)], args := [d] }
  | _ => none }
def fnCountServedRow : OpenClaim := { program := "ytmabhoglnapgdaa", sum := "aad18794b6310568fd3ab21371ca1c427b3c2b258d89a2652599acfdeba1636c", func := "loop.example/connectionpool/laws.FnCountServed", spec := "fnCountServed", apart := false }
def FnCountServedSaid : Prop := fnCountServedRow.holds Try.pinned (OpenSpec.ofChange fnCountServedSpec)

/-- ITS FALSE NEIGHBOUR: 'it returns false'. Refute it at one input. -/
def fnCountServedWrong : ChangeSpec := { name := "fnCountServed", fn := fun _ => fun
  | [d] => { results := [.lit (.bool false)], args := [d] }
  | _ => none }
def FnCountServedWrongFalsely : Prop := fnCountServedRow.holds Try.pinned (OpenSpec.ofChange fnCountServedWrong)

/-- 'laws.FnConnsFor': WHATEVER THE INPUT: true; the input reads as it did. -/
def fnConnsForSpec : ChangeSpec := { name := "fnConnsFor", fn := fun _ => fun
  | [d] => { results := [.lit (.bool true)], args := [d] }
  | _ => none }
def fnConnsForRow : OpenClaim := { program := "ytmabhoglnapgdaa", sum := "aad18794b6310568fd3ab21371ca1c427b3c2b258d89a2652599acfdeba1636c", func := "loop.example/connectionpool/laws.FnConnsFor", spec := "fnConnsFor", apart := false }
def FnConnsForSaid : Prop := fnConnsForRow.holds Try.pinned (OpenSpec.ofChange fnConnsForSpec)

/-- ITS FALSE NEIGHBOUR: 'it returns false'. Refute it at one input. -/
def fnConnsForWrong : ChangeSpec := { name := "fnConnsFor", fn := fun _ => fun
  | [d] => { results := [.lit (.bool false)], args := [d] }
  | _ => none }
def FnConnsForWrongFalsely : Prop := fnConnsForRow.holds Try.pinned (OpenSpec.ofChange fnConnsForWrong)

/-- 'laws.FnConnsForFew': WHATEVER THE INPUT: true; the input reads as it did. -/
def fnConnsForFewSpec : ChangeSpec := { name := "fnConnsForFew", fn := fun _ => fun
  | [d] => { results := [.lit (.bool true)], args := [d] }
  | _ => none }
def fnConnsForFewRow : OpenClaim := { program := "ytmabhoglnapgdaa", sum := "aad18794b6310568fd3ab21371ca1c427b3c2b258d89a2652599acfdeba1636c", func := "loop.example/connectionpool/laws.FnConnsForFew", spec := "fnConnsForFew", apart := false }
def FnConnsForFewSaid : Prop := fnConnsForFewRow.holds Try.pinned (OpenSpec.ofChange fnConnsForFewSpec)

/-- ITS FALSE NEIGHBOUR: 'it returns false'. Refute it at one input. -/
def fnConnsForFewWrong : ChangeSpec := { name := "fnConnsForFew", fn := fun _ => fun
  | [d] => { results := [.lit (.bool false)], args := [d] }
  | _ => none }
def FnConnsForFewWrongFalsely : Prop := fnConnsForFewRow.holds Try.pinned (OpenSpec.ofChange fnConnsForFewWrong)

/-- 'laws.FnConnsForShort': WHATEVER THE INPUT: true; the input reads as it did. -/
def fnConnsForShortSpec : ChangeSpec := { name := "fnConnsForShort", fn := fun _ => fun
  | [d] => { results := [.lit (.bool true)], args := [d] }
  | _ => none }
def fnConnsForShortRow : OpenClaim := { program := "ytmabhoglnapgdaa", sum := "aad18794b6310568fd3ab21371ca1c427b3c2b258d89a2652599acfdeba1636c", func := "loop.example/connectionpool/laws.FnConnsForShort", spec := "fnConnsForShort", apart := false }
def FnConnsForShortSaid : Prop := fnConnsForShortRow.holds Try.pinned (OpenSpec.ofChange fnConnsForShortSpec)

/-- ITS FALSE NEIGHBOUR: 'it returns false'. Refute it at one input. -/
def fnConnsForShortWrong : ChangeSpec := { name := "fnConnsForShort", fn := fun _ => fun
  | [d] => { results := [.lit (.bool false)], args := [d] }
  | _ => none }
def FnConnsForShortWrongFalsely : Prop := fnConnsForShortRow.holds Try.pinned (OpenSpec.ofChange fnConnsForShortWrong)

/-- 'laws.FnCountServedFirst': WHATEVER THE INPUT: true; the input reads as it did. -/
def fnCountServedFirstSpec : ChangeSpec := { name := "fnCountServedFirst", fn := fun _ => fun
  | [d] => { results := [.lit (.bool true)], args := [d] }
  | _ => none }
def fnCountServedFirstRow : OpenClaim := { program := "ytmabhoglnapgdaa", sum := "aad18794b6310568fd3ab21371ca1c427b3c2b258d89a2652599acfdeba1636c", func := "loop.example/connectionpool/laws.FnCountServedFirst", spec := "fnCountServedFirst", apart := false }
def FnCountServedFirstSaid : Prop := fnCountServedFirstRow.holds Try.pinned (OpenSpec.ofChange fnCountServedFirstSpec)

/-- ITS FALSE NEIGHBOUR: 'it returns false'. Refute it at one input. -/
def fnCountServedFirstWrong : ChangeSpec := { name := "fnCountServedFirst", fn := fun _ => fun
  | [d] => { results := [.lit (.bool false)], args := [d] }
  | _ => none }
def FnCountServedFirstWrongFalsely : Prop := fnCountServedFirstRow.holds Try.pinned (OpenSpec.ofChange fnCountServedFirstWrong)

/-- 'laws.FnExactServeTimes': WHATEVER THE INPUT: true; the input reads as it did. -/
def fnExactServeTimesSpec : ChangeSpec := { name := "fnExactServeTimes", fn := fun _ => fun
  | [d1, d2] => { results := [.lit (.bool true)], args := [d1, d2] }
  | _ => none }
def fnExactServeTimesRow : OpenClaim := { program := "ytmabhoglnapgdaa", sum := "aad18794b6310568fd3ab21371ca1c427b3c2b258d89a2652599acfdeba1636c", func := "loop.example/connectionpool/laws.FnExactServeTimes", spec := "fnExactServeTimes", apart := false }
def FnExactServeTimesSaid : Prop := fnExactServeTimesRow.holds Try.pinned (OpenSpec.ofChange fnExactServeTimesSpec)

/-- ITS FALSE NEIGHBOUR: 'it returns false'. Refute it at one input. -/
def fnExactServeTimesWrong : ChangeSpec := { name := "fnExactServeTimes", fn := fun _ => fun
  | [d1, d2] => { results := [.lit (.bool false)], args := [d1, d2] }
  | _ => none }
def FnExactServeTimesWrongFalsely : Prop := fnExactServeTimesRow.holds Try.pinned (OpenSpec.ofChange fnExactServeTimesWrong)

/-- 'laws.FnExactConnsFor': WHATEVER THE INPUT: true; the input reads as it did. -/
def fnExactConnsForSpec : ChangeSpec := { name := "fnExactConnsFor", fn := fun _ => fun
  | [d] => { results := [.lit (.bool true)], args := [d] }
  | _ => none }
def fnExactConnsForRow : OpenClaim := { program := "ytmabhoglnapgdaa", sum := "aad18794b6310568fd3ab21371ca1c427b3c2b258d89a2652599acfdeba1636c", func := "loop.example/connectionpool/laws.FnExactConnsFor", spec := "fnExactConnsFor", apart := false }
def FnExactConnsForSaid : Prop := fnExactConnsForRow.holds Try.pinned (OpenSpec.ofChange fnExactConnsForSpec)

/-- ITS FALSE NEIGHBOUR: 'it returns false'. Refute it at one input. -/
def fnExactConnsForWrong : ChangeSpec := { name := "fnExactConnsFor", fn := fun _ => fun
  | [d] => { results := [.lit (.bool false)], args := [d] }
  | _ => none }
def FnExactConnsForWrongFalsely : Prop := fnExactConnsForRow.holds Try.pinned (OpenSpec.ofChange fnExactConnsForWrong)

/- THE SECOND FORM. 'bulk': how many values and letters a reading holds, each counted each time it is reached (what is shared counts as often as it is met; a slice's spare places count too). A statement '..UptoSaid' is the law's where the arguments, and the package variables that the reading takes, are together of bulk at most 1048576: NARROWER than '..Said'. Prove '..Said' where nothing that the law and all that it calls make is longer than what came in: it says more and counts as full. Else prove '..UptoSaid'. A law counts once. -/
mutual
def uptoBulk {H : Type} : DataW H → Nat
  | .lit (.string bytes) => bytes.length + 1
  | .lit _ => 1
  | .nil => 1
  | .ptr d => uptoBulk d + 1
  | .slice elems spare => uptoBulkAll elems + uptoBulkAll spare + 1
  | .agg parts => uptoBulkAll parts + 1
  | .iface _ d => uptoBulk d + 1
  | .map entries => uptoBulkEntries entries + 1
  | .held _ => 1
def uptoBulkAll {H : Type} : List (DataW H) → Nat
  | [] => 0
  | d :: r => uptoBulk d + uptoBulkAll r
def uptoBulkEntries {H : Type} : List (Lit × DataW H) → Nat
  | [] => 0
  | x :: r => uptoBulkEntry x + uptoBulkEntries r
def uptoBulkEntry {H : Type} : Lit × DataW H → Nat
  | (.string bytes, d) => bytes.length + uptoBulk d + 1
  | (_, d) => uptoBulk d + 1
 end
def uptoSmall : (H : Type) → List (DataW H) → Bool := fun _ ds => decide (uptoBulkAll ds ≤ 1048576)
def OpenSpec.upto (s : _root_.Go.ChangeSpec) : _root_.Go.OpenSpec := { _root_.Go.OpenSpec.ofChange s with cond := some uptoSmall }

/-- 'laws.FnValidWishes', WHERE WHAT IT READS IS OF BULK AT MOST 1048576: true; the input reads as it did. -/
def fnValidWishesUptoRow : OpenClaim := { program := "ytmabhoglnapgdaa", sum := "aad18794b6310568fd3ab21371ca1c427b3c2b258d89a2652599acfdeba1636c", func := "loop.example/connectionpool/laws.FnValidWishes", spec := "fnValidWishes", apart := false, narrowed := true }
def FnValidWishesUptoSaid : Prop := fnValidWishesUptoRow.holds Try.pinned (OpenSpec.upto fnValidWishesSpec)

/-- 'laws.FnValidWishesMove', WHERE WHAT IT READS IS OF BULK AT MOST 1048576: true; the input reads as it did. -/
def fnValidWishesMoveUptoRow : OpenClaim := { program := "ytmabhoglnapgdaa", sum := "aad18794b6310568fd3ab21371ca1c427b3c2b258d89a2652599acfdeba1636c", func := "loop.example/connectionpool/laws.FnValidWishesMove", spec := "fnValidWishesMove", apart := false, narrowed := true }
def FnValidWishesMoveUptoSaid : Prop := fnValidWishesMoveUptoRow.holds Try.pinned (OpenSpec.upto fnValidWishesMoveSpec)

/-- 'laws.FnExactValidWishes', WHERE WHAT IT READS IS OF BULK AT MOST 1048576: true; the input reads as it did. -/
def fnExactValidWishesUptoRow : OpenClaim := { program := "ytmabhoglnapgdaa", sum := "aad18794b6310568fd3ab21371ca1c427b3c2b258d89a2652599acfdeba1636c", func := "loop.example/connectionpool/laws.FnExactValidWishes", spec := "fnExactValidWishes", apart := false, narrowed := true }
def FnExactValidWishesUptoSaid : Prop := fnExactValidWishesUptoRow.holds Try.pinned (OpenSpec.upto fnExactValidWishesSpec)

/-- 'laws.FnServeTimes', WHERE WHAT IT READS IS OF BULK AT MOST 1048576: true; the input reads as it did. -/
def fnServeTimesUptoRow : OpenClaim := { program := "ytmabhoglnapgdaa", sum := "aad18794b6310568fd3ab21371ca1c427b3c2b258d89a2652599acfdeba1636c", func := "loop.example/connectionpool/laws.FnServeTimes", spec := "fnServeTimes", apart := false, narrowed := true }
def FnServeTimesUptoSaid : Prop := fnServeTimesUptoRow.holds Try.pinned (OpenSpec.upto fnServeTimesSpec)

/-- 'laws.FnServeTimesMost', WHERE WHAT IT READS IS OF BULK AT MOST 1048576: true; the input reads as it did. -/
def fnServeTimesMostUptoRow : OpenClaim := { program := "ytmabhoglnapgdaa", sum := "aad18794b6310568fd3ab21371ca1c427b3c2b258d89a2652599acfdeba1636c", func := "loop.example/connectionpool/laws.FnServeTimesMost", spec := "fnServeTimesMost", apart := false, narrowed := true }
def FnServeTimesMostUptoSaid : Prop := fnServeTimesMostUptoRow.holds Try.pinned (OpenSpec.upto fnServeTimesMostSpec)

/-- 'laws.FnServeTimesShort', WHERE WHAT IT READS IS OF BULK AT MOST 1048576: true; the input reads as it did. -/
def fnServeTimesShortUptoRow : OpenClaim := { program := "ytmabhoglnapgdaa", sum := "aad18794b6310568fd3ab21371ca1c427b3c2b258d89a2652599acfdeba1636c", func := "loop.example/connectionpool/laws.FnServeTimesShort", spec := "fnServeTimesShort", apart := false, narrowed := true }
def FnServeTimesShortUptoSaid : Prop := fnServeTimesShortUptoRow.holds Try.pinned (OpenSpec.upto fnServeTimesShortSpec)

/-- 'laws.FnLongestWaitShort', WHERE WHAT IT READS IS OF BULK AT MOST 1048576: true; the input reads as it did. -/
def fnLongestWaitShortUptoRow : OpenClaim := { program := "ytmabhoglnapgdaa", sum := "aad18794b6310568fd3ab21371ca1c427b3c2b258d89a2652599acfdeba1636c", func := "loop.example/connectionpool/laws.FnLongestWaitShort", spec := "fnLongestWaitShort", apart := false, narrowed := true }
def FnLongestWaitShortUptoSaid : Prop := fnLongestWaitShortUptoRow.holds Try.pinned (OpenSpec.upto fnLongestWaitShortSpec)

/-- 'laws.FnExactLongestWait', WHERE WHAT IT READS IS OF BULK AT MOST 1048576: true; the input reads as it did. -/
def fnExactLongestWaitUptoRow : OpenClaim := { program := "ytmabhoglnapgdaa", sum := "aad18794b6310568fd3ab21371ca1c427b3c2b258d89a2652599acfdeba1636c", func := "loop.example/connectionpool/laws.FnExactLongestWait", spec := "fnExactLongestWait", apart := false, narrowed := true }
def FnExactLongestWaitUptoSaid : Prop := fnExactLongestWaitUptoRow.holds Try.pinned (OpenSpec.upto fnExactLongestWaitSpec)

/-- 'laws.FnLongestWait', WHERE WHAT IT READS IS OF BULK AT MOST 1048576: true; the input reads as it did. -/
def fnLongestWaitUptoRow : OpenClaim := { program := "ytmabhoglnapgdaa", sum := "aad18794b6310568fd3ab21371ca1c427b3c2b258d89a2652599acfdeba1636c", func := "loop.example/connectionpool/laws.FnLongestWait", spec := "fnLongestWait", apart := false, narrowed := true }
def FnLongestWaitUptoSaid : Prop := fnLongestWaitUptoRow.holds Try.pinned (OpenSpec.upto fnLongestWaitSpec)

/-- 'laws.FnExactCountServed', WHERE WHAT IT READS IS OF BULK AT MOST 1048576: true; the input reads as it did. -/
def fnExactCountServedUptoRow : OpenClaim := { program := "ytmabhoglnapgdaa", sum := "aad18794b6310568fd3ab21371ca1c427b3c2b258d89a2652599acfdeba1636c", func := "loop.example/connectionpool/laws.FnExactCountServed", spec := "fnExactCountServed", apart := false, narrowed := true }
def FnExactCountServedUptoSaid : Prop := fnExactCountServedUptoRow.holds Try.pinned (OpenSpec.upto fnExactCountServedSpec)

/-- 'laws.FnCountServed', WHERE WHAT IT READS IS OF BULK AT MOST 1048576: true; the input reads as it did. -/
def fnCountServedUptoRow : OpenClaim := { program := "ytmabhoglnapgdaa", sum := "aad18794b6310568fd3ab21371ca1c427b3c2b258d89a2652599acfdeba1636c", func := "loop.example/connectionpool/laws.FnCountServed", spec := "fnCountServed", apart := false, narrowed := true }
def FnCountServedUptoSaid : Prop := fnCountServedUptoRow.holds Try.pinned (OpenSpec.upto fnCountServedSpec)

/-- 'laws.FnConnsFor', WHERE WHAT IT READS IS OF BULK AT MOST 1048576: true; the input reads as it did. -/
def fnConnsForUptoRow : OpenClaim := { program := "ytmabhoglnapgdaa", sum := "aad18794b6310568fd3ab21371ca1c427b3c2b258d89a2652599acfdeba1636c", func := "loop.example/connectionpool/laws.FnConnsFor", spec := "fnConnsFor", apart := false, narrowed := true }
def FnConnsForUptoSaid : Prop := fnConnsForUptoRow.holds Try.pinned (OpenSpec.upto fnConnsForSpec)

/-- 'laws.FnConnsForFew', WHERE WHAT IT READS IS OF BULK AT MOST 1048576: true; the input reads as it did. -/
def fnConnsForFewUptoRow : OpenClaim := { program := "ytmabhoglnapgdaa", sum := "aad18794b6310568fd3ab21371ca1c427b3c2b258d89a2652599acfdeba1636c", func := "loop.example/connectionpool/laws.FnConnsForFew", spec := "fnConnsForFew", apart := false, narrowed := true }
def FnConnsForFewUptoSaid : Prop := fnConnsForFewUptoRow.holds Try.pinned (OpenSpec.upto fnConnsForFewSpec)

/-- 'laws.FnConnsForShort', WHERE WHAT IT READS IS OF BULK AT MOST 1048576: true; the input reads as it did. -/
def fnConnsForShortUptoRow : OpenClaim := { program := "ytmabhoglnapgdaa", sum := "aad18794b6310568fd3ab21371ca1c427b3c2b258d89a2652599acfdeba1636c", func := "loop.example/connectionpool/laws.FnConnsForShort", spec := "fnConnsForShort", apart := false, narrowed := true }
def FnConnsForShortUptoSaid : Prop := fnConnsForShortUptoRow.holds Try.pinned (OpenSpec.upto fnConnsForShortSpec)

/-- 'laws.FnCountServedFirst', WHERE WHAT IT READS IS OF BULK AT MOST 1048576: true; the input reads as it did. -/
def fnCountServedFirstUptoRow : OpenClaim := { program := "ytmabhoglnapgdaa", sum := "aad18794b6310568fd3ab21371ca1c427b3c2b258d89a2652599acfdeba1636c", func := "loop.example/connectionpool/laws.FnCountServedFirst", spec := "fnCountServedFirst", apart := false, narrowed := true }
def FnCountServedFirstUptoSaid : Prop := fnCountServedFirstUptoRow.holds Try.pinned (OpenSpec.upto fnCountServedFirstSpec)

/-- 'laws.FnExactServeTimes', WHERE WHAT IT READS IS OF BULK AT MOST 1048576: true; the input reads as it did. -/
def fnExactServeTimesUptoRow : OpenClaim := { program := "ytmabhoglnapgdaa", sum := "aad18794b6310568fd3ab21371ca1c427b3c2b258d89a2652599acfdeba1636c", func := "loop.example/connectionpool/laws.FnExactServeTimes", spec := "fnExactServeTimes", apart := false, narrowed := true }
def FnExactServeTimesUptoSaid : Prop := fnExactServeTimesUptoRow.holds Try.pinned (OpenSpec.upto fnExactServeTimesSpec)

/-- 'laws.FnExactConnsFor', WHERE WHAT IT READS IS OF BULK AT MOST 1048576: true; the input reads as it did. -/
def fnExactConnsForUptoRow : OpenClaim := { program := "ytmabhoglnapgdaa", sum := "aad18794b6310568fd3ab21371ca1c427b3c2b258d89a2652599acfdeba1636c", func := "loop.example/connectionpool/laws.FnExactConnsFor", spec := "fnExactConnsFor", apart := false, narrowed := true }
def FnExactConnsForUptoSaid : Prop := fnExactConnsForUptoRow.holds Try.pinned (OpenSpec.upto fnExactConnsForSpec)

end Rows
end Go.Proofs.Ytmabhoglnapgdaa
