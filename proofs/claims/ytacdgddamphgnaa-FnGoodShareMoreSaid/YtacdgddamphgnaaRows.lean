/-
  No cell of these rows narrows 'for every input' (looked for: loops, veiled, ifaces, maps, wideKeys, modest, calm, conditions, laid).
  DERIVED. THE GIVEN ROWS OF THIS SEAT. 6 by the template 'for every input the law returns true; each argument reads behind the call as it read before'; 0 by the template 'total and deterministic' (their statements: YtacdgddamphgnaaTotals.lean).
  GIVEN WITH THE SEED: the statements are not yours to turn. If you find one false, say at which input.
  Laid BY PROGRAM, IN A SANDBOX (cutbox-rows.mjs): the forced cells as the released guide's own fill.sh prints them over the translation 14237394f70446b1… (all of the seat's roots in one cut). By AI agents, Wed Nov 11 2026. No macro, syntax, notation, axiom, sorry.
-/
import Derived.Test.YtacdgddamphgnaaChecked
import GoSem.Claim
import GoSem.ClaimJoined
import GoSem.ClaimMapViews
import Derived.JoinedTies
import Derived.KernelRfl
namespace Go.Proofs.Ytacdgddamphgnaa
/- THE CELL 'sum', in the pinned program and in every row, IS THE sha256 OF THE DUMP (.gsa) THAT YtacdgddamphgnaaProg.lean LOADS. Nothing in Lean hashes anything: it is a label: what it is worth is what the hold of that sum in a sandbox is worth. -/
noncomputable def Try.pinned : Pinned := { name := "ytacdgddamphgnaa", sum := "14237394f70446b17b9409e9c50fb240c175897b25eff1436ad7cf28e6edc510", checked := Try.checked }
namespace Rows
def none {H : Type} : Left H := { results := [], args := [] }

/-- 'laws.FnExactSizeFor': WHATEVER THE INPUT: true; the input reads as it did. -/
def fnExactSizeForSpec : ChangeSpec := { name := "fnExactSizeFor", fn := fun _ => fun
  | [d1, d2] => { results := [.lit (.bool true)], args := [d1, d2] }
  | _ => none }
def fnExactSizeForRow : OpenClaim := { program := "ytacdgddamphgnaa", sum := "14237394f70446b17b9409e9c50fb240c175897b25eff1436ad7cf28e6edc510", func := "loop.example/connectionpool/laws.FnExactSizeFor", spec := "fnExactSizeFor", apart := false }
def FnExactSizeForSaid : Prop := fnExactSizeForRow.holds Try.pinned (OpenSpec.ofChange fnExactSizeForSpec)

/-- ITS FALSE NEIGHBOUR: 'it returns false'. Refute it at one input. -/
def fnExactSizeForWrong : ChangeSpec := { name := "fnExactSizeFor", fn := fun _ => fun
  | [d1, d2] => { results := [.lit (.bool false)], args := [d1, d2] }
  | _ => none }
def FnExactSizeForWrongFalsely : Prop := fnExactSizeForRow.holds Try.pinned (OpenSpec.ofChange fnExactSizeForWrong)

/-- 'laws.FnSizeFor': WHATEVER THE INPUT: true; the input reads as it did. -/
def fnSizeForSpec : ChangeSpec := { name := "fnSizeFor", fn := fun _ => fun
  | [d] => { results := [.lit (.bool true)], args := [d] }
  | _ => none }
def fnSizeForRow : OpenClaim := { program := "ytacdgddamphgnaa", sum := "14237394f70446b17b9409e9c50fb240c175897b25eff1436ad7cf28e6edc510", func := "loop.example/connectionpool/laws.FnSizeFor", spec := "fnSizeFor", apart := false }
def FnSizeForSaid : Prop := fnSizeForRow.holds Try.pinned (OpenSpec.ofChange fnSizeForSpec)

/-- ITS FALSE NEIGHBOUR: 'it returns false'. Refute it at one input. -/
def fnSizeForWrong : ChangeSpec := { name := "fnSizeFor", fn := fun _ => fun
  | [d] => { results := [.lit (.bool false)], args := [d] }
  | _ => none }
def FnSizeForWrongFalsely : Prop := fnSizeForRow.holds Try.pinned (OpenSpec.ofChange fnSizeForWrong)

/-- 'laws.FnSizeForMore': WHATEVER THE INPUT: true; the input reads as it did. -/
def fnSizeForMoreSpec : ChangeSpec := { name := "fnSizeForMore", fn := fun _ => fun
  | [d] => { results := [.lit (.bool true)], args := [d] }
  | _ => none }
def fnSizeForMoreRow : OpenClaim := { program := "ytacdgddamphgnaa", sum := "14237394f70446b17b9409e9c50fb240c175897b25eff1436ad7cf28e6edc510", func := "loop.example/connectionpool/laws.FnSizeForMore", spec := "fnSizeForMore", apart := false }
def FnSizeForMoreSaid : Prop := fnSizeForMoreRow.holds Try.pinned (OpenSpec.ofChange fnSizeForMoreSpec)

/-- ITS FALSE NEIGHBOUR: 'it returns false'. Refute it at one input. -/
def fnSizeForMoreWrong : ChangeSpec := { name := "fnSizeForMore", fn := fun _ => fun
  | [d] => { results := [.lit (.bool false)], args := [d] }
  | _ => none }
def FnSizeForMoreWrongFalsely : Prop := fnSizeForMoreRow.holds Try.pinned (OpenSpec.ofChange fnSizeForMoreWrong)

/-- 'laws.FnExactGoodShare': WHATEVER THE INPUT: true; the input reads as it did. -/
def fnExactGoodShareSpec : ChangeSpec := { name := "fnExactGoodShare", fn := fun _ => fun
  | [d] => { results := [.lit (.bool true)], args := [d] }
  | _ => none }
def fnExactGoodShareRow : OpenClaim := { program := "ytacdgddamphgnaa", sum := "14237394f70446b17b9409e9c50fb240c175897b25eff1436ad7cf28e6edc510", func := "loop.example/connectionpool/laws.FnExactGoodShare", spec := "fnExactGoodShare", apart := false }
def FnExactGoodShareSaid : Prop := fnExactGoodShareRow.holds Try.pinned (OpenSpec.ofChange fnExactGoodShareSpec)

/-- ITS FALSE NEIGHBOUR: 'it returns false'. Refute it at one input. -/
def fnExactGoodShareWrong : ChangeSpec := { name := "fnExactGoodShare", fn := fun _ => fun
  | [d] => { results := [.lit (.bool false)], args := [d] }
  | _ => none }
def FnExactGoodShareWrongFalsely : Prop := fnExactGoodShareRow.holds Try.pinned (OpenSpec.ofChange fnExactGoodShareWrong)

/-- 'laws.FnGoodShare': WHATEVER THE INPUT: true; the input reads as it did. -/
def fnGoodShareSpec : ChangeSpec := { name := "fnGoodShare", fn := fun _ => fun
  | [d] => { results := [.lit (.bool true)], args := [d] }
  | _ => none }
def fnGoodShareRow : OpenClaim := { program := "ytacdgddamphgnaa", sum := "14237394f70446b17b9409e9c50fb240c175897b25eff1436ad7cf28e6edc510", func := "loop.example/connectionpool/laws.FnGoodShare", spec := "fnGoodShare", apart := false }
def FnGoodShareSaid : Prop := fnGoodShareRow.holds Try.pinned (OpenSpec.ofChange fnGoodShareSpec)

/-- ITS FALSE NEIGHBOUR: 'it returns false'. Refute it at one input. -/
def fnGoodShareWrong : ChangeSpec := { name := "fnGoodShare", fn := fun _ => fun
  | [d] => { results := [.lit (.bool false)], args := [d] }
  | _ => none }
def FnGoodShareWrongFalsely : Prop := fnGoodShareRow.holds Try.pinned (OpenSpec.ofChange fnGoodShareWrong)

/-- 'laws.FnGoodShareMore': WHATEVER THE INPUT: true; the input reads as it did. -/
def fnGoodShareMoreSpec : ChangeSpec := { name := "fnGoodShareMore", fn := fun _ => fun
  | [d] => { results := [.lit (.bool true)], args := [d] }
  | _ => none }
def fnGoodShareMoreRow : OpenClaim := { program := "ytacdgddamphgnaa", sum := "14237394f70446b17b9409e9c50fb240c175897b25eff1436ad7cf28e6edc510", func := "loop.example/connectionpool/laws.FnGoodShareMore", spec := "fnGoodShareMore", apart := false }
def FnGoodShareMoreSaid : Prop := fnGoodShareMoreRow.holds Try.pinned (OpenSpec.ofChange fnGoodShareMoreSpec)

/-- ITS FALSE NEIGHBOUR: 'it returns false'. Refute it at one input. -/
def fnGoodShareMoreWrong : ChangeSpec := { name := "fnGoodShareMore", fn := fun _ => fun
  | [d] => { results := [.lit (.bool false)], args := [d] }
  | _ => none }
def FnGoodShareMoreWrongFalsely : Prop := fnGoodShareMoreRow.holds Try.pinned (OpenSpec.ofChange fnGoodShareMoreWrong)

/- THE SECOND FORM. 'bulk': how many values and letters a reading holds, each counted each time it is reached (what is shared counts as often as it is met; a slice's spare places count too). A statement '..UptoSaid' is the law's where the arguments, and the package variables that the reading takes, are together of bulk at most 1048576: NARROWER than '..Said'. Prove '..Said' where nothing that the law and all that it calls make is longer than what came in: it says more and counts as full. Else prove '..UptoSaid'. A law counts once. -/
mutual
def uptoBulk {H : Type} : DataW H → Nat
  | .lit (.string bytes) => bytes.length + 1
  | .lit _ => 1
  | .nil => 1
  | .ptr d => uptoBulk d + 1
  | .slice elems spare => uptoBulkAll elems + uptoBulkAll spare + 1
  | .agg parts => uptoBulkAll parts + 1
  | .iface _ d => uptoBulk d + 1
  | .map entries => uptoBulkEntries entries + 1
  | .held _ => 1
def uptoBulkAll {H : Type} : List (DataW H) → Nat
  | [] => 0
  | d :: r => uptoBulk d + uptoBulkAll r
def uptoBulkEntries {H : Type} : List (Lit × DataW H) → Nat
  | [] => 0
  | x :: r => uptoBulkEntry x + uptoBulkEntries r
def uptoBulkEntry {H : Type} : Lit × DataW H → Nat
  | (.string bytes, d) => bytes.length + uptoBulk d + 1
  | (_, d) => uptoBulk d + 1
 end
def uptoSmall : (H : Type) → List (DataW H) → Bool := fun _ ds => decide (uptoBulkAll ds ≤ 1048576)
def OpenSpec.upto (s : _root_.Go.ChangeSpec) : _root_.Go.OpenSpec := { _root_.Go.OpenSpec.ofChange s with cond := some uptoSmall }

/-- 'laws.FnExactSizeFor', WHERE WHAT IT READS IS OF BULK AT MOST 1048576: true; the input reads as it did. -/
def fnExactSizeForUptoRow : OpenClaim := { program := "ytacdgddamphgnaa", sum := "14237394f70446b17b9409e9c50fb240c175897b25eff1436ad7cf28e6edc510", func := "loop.example/connectionpool/laws.FnExactSizeFor", spec := "fnExactSizeFor", apart := false, narrowed := true }
def FnExactSizeForUptoSaid : Prop := fnExactSizeForUptoRow.holds Try.pinned (OpenSpec.upto fnExactSizeForSpec)

/-- 'laws.FnSizeFor', WHERE WHAT IT READS IS OF BULK AT MOST 1048576: true; the input reads as it did. -/
def fnSizeForUptoRow : OpenClaim := { program := "ytacdgddamphgnaa", sum := "14237394f70446b17b9409e9c50fb240c175897b25eff1436ad7cf28e6edc510", func := "loop.example/connectionpool/laws.FnSizeFor", spec := "fnSizeFor", apart := false, narrowed := true }
def FnSizeForUptoSaid : Prop := fnSizeForUptoRow.holds Try.pinned (OpenSpec.upto fnSizeForSpec)

/-- 'laws.FnSizeForMore', WHERE WHAT IT READS IS OF BULK AT MOST 1048576: true; the input reads as it did. -/
def fnSizeForMoreUptoRow : OpenClaim := { program := "ytacdgddamphgnaa", sum := "14237394f70446b17b9409e9c50fb240c175897b25eff1436ad7cf28e6edc510", func := "loop.example/connectionpool/laws.FnSizeForMore", spec := "fnSizeForMore", apart := false, narrowed := true }
def FnSizeForMoreUptoSaid : Prop := fnSizeForMoreUptoRow.holds Try.pinned (OpenSpec.upto fnSizeForMoreSpec)

/-- 'laws.FnExactGoodShare', WHERE WHAT IT READS IS OF BULK AT MOST 1048576: true; the input reads as it did. -/
def fnExactGoodShareUptoRow : OpenClaim := { program := "ytacdgddamphgnaa", sum := "14237394f70446b17b9409e9c50fb240c175897b25eff1436ad7cf28e6edc510", func := "loop.example/connectionpool/laws.FnExactGoodShare", spec := "fnExactGoodShare", apart := false, narrowed := true }
def FnExactGoodShareUptoSaid : Prop := fnExactGoodShareUptoRow.holds Try.pinned (OpenSpec.upto fnExactGoodShareSpec)

/-- 'laws.FnGoodShare', WHERE WHAT IT READS IS OF BULK AT MOST 1048576: true; the input reads as it did. -/
def fnGoodShareUptoRow : OpenClaim := { program := "ytacdgddamphgnaa", sum := "14237394f70446b17b9409e9c50fb240c175897b25eff1436ad7cf28e6edc510", func := "loop.example/connectionpool/laws.FnGoodShare", spec := "fnGoodShare", apart := false, narrowed := true }
def FnGoodShareUptoSaid : Prop := fnGoodShareUptoRow.holds Try.pinned (OpenSpec.upto fnGoodShareSpec)

/-- 'laws.FnGoodShareMore', WHERE WHAT IT READS IS OF BULK AT MOST 1048576: true; the input reads as it did. -/
def fnGoodShareMoreUptoRow : OpenClaim := { program := "ytacdgddamphgnaa", sum := "14237394f70446b17b9409e9c50fb240c175897b25eff1436ad7cf28e6edc510", func := "loop.example/connectionpool/laws.FnGoodShareMore", spec := "fnGoodShareMore", apart := false, narrowed := true }
def FnGoodShareMoreUptoSaid : Prop := fnGoodShareMoreUptoRow.holds Try.pinned (OpenSpec.upto fnGoodShareMoreSpec)

end Rows
end Go.Proofs.Ytacdgddamphgnaa
