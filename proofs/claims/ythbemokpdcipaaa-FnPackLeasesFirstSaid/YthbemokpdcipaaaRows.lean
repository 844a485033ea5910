/-
  No cell of these rows narrows 'for every input' (looked for: loops, veiled, ifaces, maps, wideKeys, modest, calm, conditions, laid).
  DERIVED. THE GIVEN ROWS OF THIS SEAT. 10 by the template 'for every input the law returns true; each argument reads behind the call as it read before'; 0 by the template 'total and deterministic' (their statements: YthbemokpdcipaaaTotals.lean).
  GIVEN WITH THE SEED: the statements are not yours to turn. If you find one false, say at which input.
  Laid BY PROGRAM, IN A SANDBOX (cutbox-rows.mjs): the forced cells as the released guide's own fill.sh prints them over the translation 759f42d69ace2bef… (all of the seat's roots in one cut). By AI agents, Wed Nov 11 2026. No macro, syntax, notation, axiom, sorry.
-/
import Derived.Test.YthbemokpdcipaaaChecked
import GoSem.Claim
import GoSem.ClaimJoined
import GoSem.ClaimMapViews
import Derived.JoinedTies
import Derived.KernelRfl
namespace Go.Proofs.Ythbemokpdcipaaa
/- THE CELL 'sum', in the pinned program and in every row, IS THE sha256 OF THE DUMP (.gsa) THAT YthbemokpdcipaaaProg.lean LOADS. Nothing in Lean hashes anything: it is a label: what it is worth is what the hold of that sum in a sandbox is worth. -/
noncomputable def Try.pinned : Pinned := { name := "ythbemokpdcipaaa", sum := "759f42d69ace2bef23f5570800d4f0c3db878b6c6b3f357d331c9e3d7abd0b40", checked := Try.checked }
namespace Rows
def none {H : Type} : Left H := { results := [], args := [] }

/-- 'laws.FnPackLeasesFirst': WHATEVER THE INPUT: true; the input reads as it did. -/
def fnPackLeasesFirstSpec : ChangeSpec := { name := "fnPackLeasesFirst", fn := fun _ => fun
  | [d] => { results := [.lit (.bool true)], args := [d] }
  | _ => none }
def fnPackLeasesFirstRow : OpenClaim := { program := "ythbemokpdcipaaa", sum := "759f42d69ace2bef23f5570800d4f0c3db878b6c6b3f357d331c9e3d7abd0b40", func := "loop.example/connectionpool/laws.FnPackLeasesFirst", spec := "fnPackLeasesFirst", unfollowed := true, recurses := true, apart := false }
def FnPackLeasesFirstSaid : Prop := fnPackLeasesFirstRow.holds Try.pinned (OpenSpec.ofChange fnPackLeasesFirstSpec)

/-- ITS FALSE NEIGHBOUR: 'it returns false'. Refute it at one input. -/
def fnPackLeasesFirstWrong : ChangeSpec := { name := "fnPackLeasesFirst", fn := fun _ => fun
  | [d] => { results := [.lit (.bool false)], args := [d] }
  | _ => none }
def FnPackLeasesFirstWrongFalsely : Prop := fnPackLeasesFirstRow.holds Try.pinned (OpenSpec.ofChange fnPackLeasesFirstWrong)

/-- 'laws.FnPackLeasesTwice': WHATEVER THE INPUT: true; the input reads as it did. -/
def fnPackLeasesTwiceSpec : ChangeSpec := { name := "fnPackLeasesTwice", fn := fun _ => fun
  | [d] => { results := [.lit (.bool true)], args := [d] }
  | _ => none }
def fnPackLeasesTwiceRow : OpenClaim := { program := "ythbemokpdcipaaa", sum := "759f42d69ace2bef23f5570800d4f0c3db878b6c6b3f357d331c9e3d7abd0b40", func := "loop.example/connectionpool/laws.FnPackLeasesTwice", spec := "fnPackLeasesTwice", unfollowed := true, recurses := true, apart := false }
def FnPackLeasesTwiceSaid : Prop := fnPackLeasesTwiceRow.holds Try.pinned (OpenSpec.ofChange fnPackLeasesTwiceSpec)

/-- ITS FALSE NEIGHBOUR: 'it returns false'. Refute it at one input. -/
def fnPackLeasesTwiceWrong : ChangeSpec := { name := "fnPackLeasesTwice", fn := fun _ => fun
  | [d] => { results := [.lit (.bool false)], args := [d] }
  | _ => none }
def FnPackLeasesTwiceWrongFalsely : Prop := fnPackLeasesTwiceRow.holds Try.pinned (OpenSpec.ofChange fnPackLeasesTwiceWrong)

/-- 'laws.FnExactPackLeases': WHATEVER THE INPUT: true; the input reads as it did. -/
def fnExactPackLeasesSpec : ChangeSpec := { name := "fnExactPackLeases", fn := fun _ => fun
  | [d] => { results := [.lit (.bool true)], args := [d] }
  | _ => none }
def fnExactPackLeasesRow : OpenClaim := { program := "ythbemokpdcipaaa", sum := "759f42d69ace2bef23f5570800d4f0c3db878b6c6b3f357d331c9e3d7abd0b40", func := "loop.example/connectionpool/laws.FnExactPackLeases", spec := "fnExactPackLeases", unfollowed := true, recurses := true, apart := false }
def FnExactPackLeasesSaid : Prop := fnExactPackLeasesRow.holds Try.pinned (OpenSpec.ofChange fnExactPackLeasesSpec)

/-- ITS FALSE NEIGHBOUR: 'it returns false'. Refute it at one input. -/
def fnExactPackLeasesWrong : ChangeSpec := { name := "fnExactPackLeases", fn := fun _ => fun
  | [d] => { results := [.lit (.bool false)], args := [d] }
  | _ => none }
def FnExactPackLeasesWrongFalsely : Prop := fnExactPackLeasesRow.holds Try.pinned (OpenSpec.ofChange fnExactPackLeasesWrong)

/-- 'laws.FnExactMeanLeased': WHATEVER THE INPUT: true; the input reads as it did. -/
def fnExactMeanLeasedSpec : ChangeSpec := { name := "fnExactMeanLeased", fn := fun _ => fun
  | [d1, d2] => { results := [.lit (.bool true)], args := [d1, d2] }
  | _ => none }
def fnExactMeanLeasedRow : OpenClaim := { program := "ythbemokpdcipaaa", sum := "759f42d69ace2bef23f5570800d4f0c3db878b6c6b3f357d331c9e3d7abd0b40", func := "loop.example/connectionpool/laws.FnExactMeanLeased", spec := "fnExactMeanLeased", unfollowed := true, recurses := true, apart := false }
def FnExactMeanLeasedSaid : Prop := fnExactMeanLeasedRow.holds Try.pinned (OpenSpec.ofChange fnExactMeanLeasedSpec)

/-- ITS FALSE NEIGHBOUR: 'it returns false'. Refute it at one input. -/
def fnExactMeanLeasedWrong : ChangeSpec := { name := "fnExactMeanLeased", fn := fun _ => fun
  | [d1, d2] => { results := [.lit (.bool false)], args := [d1, d2] }
  | _ => none }
def FnExactMeanLeasedWrongFalsely : Prop := fnExactMeanLeasedRow.holds Try.pinned (OpenSpec.ofChange fnExactMeanLeasedWrong)

/-- 'laws.FnMeanLeasedMore': WHATEVER THE INPUT: true; the input reads as it did. -/
def fnMeanLeasedMoreSpec : ChangeSpec := { name := "fnMeanLeasedMore", fn := fun _ => fun
  | [d] => { results := [.lit (.bool true)], args := [d] }
  | _ => none }
def fnMeanLeasedMoreRow : OpenClaim := { program := "ythbemokpdcipaaa", sum := "759f42d69ace2bef23f5570800d4f0c3db878b6c6b3f357d331c9e3d7abd0b40", func := "loop.example/connectionpool/laws.FnMeanLeasedMore", spec := "fnMeanLeasedMore", unfollowed := true, recurses := true, apart := false }
def FnMeanLeasedMoreSaid : Prop := fnMeanLeasedMoreRow.holds Try.pinned (OpenSpec.ofChange fnMeanLeasedMoreSpec)

/-- ITS FALSE NEIGHBOUR: 'it returns false'. Refute it at one input. -/
def fnMeanLeasedMoreWrong : ChangeSpec := { name := "fnMeanLeasedMore", fn := fun _ => fun
  | [d] => { results := [.lit (.bool false)], args := [d] }
  | _ => none }
def FnMeanLeasedMoreWrongFalsely : Prop := fnMeanLeasedMoreRow.holds Try.pinned (OpenSpec.ofChange fnMeanLeasedMoreWrong)

/-- 'laws.FnExactMostLeased': WHATEVER THE INPUT: true; the input reads as it did. -/
def fnExactMostLeasedSpec : ChangeSpec := { name := "fnExactMostLeased", fn := fun _ => fun
  | [d] => { results := [.lit (.bool true)], args := [d] }
  | _ => none }
def fnExactMostLeasedRow : OpenClaim := { program := "ythbemokpdcipaaa", sum := "759f42d69ace2bef23f5570800d4f0c3db878b6c6b3f357d331c9e3d7abd0b40", func := "loop.example/connectionpool/laws.FnExactMostLeased", spec := "fnExactMostLeased", unfollowed := true, recurses := true, apart := false }
def FnExactMostLeasedSaid : Prop := fnExactMostLeasedRow.holds Try.pinned (OpenSpec.ofChange fnExactMostLeasedSpec)

/-- ITS FALSE NEIGHBOUR: 'it returns false'. Refute it at one input. -/
def fnExactMostLeasedWrong : ChangeSpec := { name := "fnExactMostLeased", fn := fun _ => fun
  | [d] => { results := [.lit (.bool false)], args := [d] }
  | _ => none }
def FnExactMostLeasedWrongFalsely : Prop := fnExactMostLeasedRow.holds Try.pinned (OpenSpec.ofChange fnExactMostLeasedWrong)

/-- 'laws.FnMostLeased': WHATEVER THE INPUT: true; the input reads as it did. -/
def fnMostLeasedSpec : ChangeSpec := { name := "fnMostLeased", fn := fun _ => fun
  | [d] => { results := [.lit (.bool true)], args := [d] }
  | _ => none }
def fnMostLeasedRow : OpenClaim := { program := "ythbemokpdcipaaa", sum := "759f42d69ace2bef23f5570800d4f0c3db878b6c6b3f357d331c9e3d7abd0b40", func := "loop.example/connectionpool/laws.FnMostLeased", spec := "fnMostLeased", unfollowed := true, recurses := true, apart := false }
def FnMostLeasedSaid : Prop := fnMostLeasedRow.holds Try.pinned (OpenSpec.ofChange fnMostLeasedSpec)

/-- ITS FALSE NEIGHBOUR: 'it returns false'. Refute it at one input. -/
def fnMostLeasedWrong : ChangeSpec := { name := "fnMostLeased", fn := fun _ => fun
  | [d] => { results := [.lit (.bool false)], args := [d] }
  | _ => none }
def FnMostLeasedWrongFalsely : Prop := fnMostLeasedRow.holds Try.pinned (OpenSpec.ofChange fnMostLeasedWrong)

/-- 'laws.FnMostLeasedMore': WHATEVER THE INPUT: true; the input reads as it did. -/
def fnMostLeasedMoreSpec : ChangeSpec := { name := "fnMostLeasedMore", fn := fun _ => fun
  | [d] => { results := [.lit (.bool true)], args := [d] }
  | _ => none }
def fnMostLeasedMoreRow : OpenClaim := { program := "ythbemokpdcipaaa", sum := "759f42d69ace2bef23f5570800d4f0c3db878b6c6b3f357d331c9e3d7abd0b40", func := "loop.example/connectionpool/laws.FnMostLeasedMore", spec := "fnMostLeasedMore", unfollowed := true, recurses := true, apart := false }
def FnMostLeasedMoreSaid : Prop := fnMostLeasedMoreRow.holds Try.pinned (OpenSpec.ofChange fnMostLeasedMoreSpec)

/-- ITS FALSE NEIGHBOUR: 'it returns false'. Refute it at one input. -/
def fnMostLeasedMoreWrong : ChangeSpec := { name := "fnMostLeasedMore", fn := fun _ => fun
  | [d] => { results := [.lit (.bool false)], args := [d] }
  | _ => none }
def FnMostLeasedMoreWrongFalsely : Prop := fnMostLeasedMoreRow.holds Try.pinned (OpenSpec.ofChange fnMostLeasedMoreWrong)

/-- 'laws.FnMeanLeased': WHATEVER THE INPUT: true; the input reads as it did. -/
def fnMeanLeasedSpec : ChangeSpec := { name := "fnMeanLeased", fn := fun _ => fun
  | [d] => { results := [.lit (.bool true)], args := [d] }
  | _ => none }
def fnMeanLeasedRow : OpenClaim := { program := "ythbemokpdcipaaa", sum := "759f42d69ace2bef23f5570800d4f0c3db878b6c6b3f357d331c9e3d7abd0b40", func := "loop.example/connectionpool/laws.FnMeanLeased", spec := "fnMeanLeased", unfollowed := true, recurses := true, apart := false }
def FnMeanLeasedSaid : Prop := fnMeanLeasedRow.holds Try.pinned (OpenSpec.ofChange fnMeanLeasedSpec)

/-- ITS FALSE NEIGHBOUR: 'it returns false'. Refute it at one input. -/
def fnMeanLeasedWrong : ChangeSpec := { name := "fnMeanLeased", fn := fun _ => fun
  | [d] => { results := [.lit (.bool false)], args := [d] }
  | _ => none }
def FnMeanLeasedWrongFalsely : Prop := fnMeanLeasedRow.holds Try.pinned (OpenSpec.ofChange fnMeanLeasedWrong)

/-- 'laws.FnBusyAt': WHATEVER THE INPUT: true; the input reads as it did. -/
def fnBusyAtSpec : ChangeSpec := { name := "fnBusyAt", fn := fun _ => fun
  | [d] => { results := [.lit (.bool true)], args := [d] }
  | _ => none }
def fnBusyAtRow : OpenClaim := { program := "ythbemokpdcipaaa", sum := "759f42d69ace2bef23f5570800d4f0c3db878b6c6b3f357d331c9e3d7abd0b40", func := "loop.example/connectionpool/laws.FnBusyAt", spec := "fnBusyAt", unfollowed := true, recurses := true, apart := false }
def FnBusyAtSaid : Prop := fnBusyAtRow.holds Try.pinned (OpenSpec.ofChange fnBusyAtSpec)

/-- ITS FALSE NEIGHBOUR: 'it returns false'. Refute it at one input. -/
def fnBusyAtWrong : ChangeSpec := { name := "fnBusyAt", fn := fun _ => fun
  | [d] => { results := [.lit (.bool false)], args := [d] }
  | _ => none }
def FnBusyAtWrongFalsely : Prop := fnBusyAtRow.holds Try.pinned (OpenSpec.ofChange fnBusyAtWrong)

/- THE SECOND FORM. 'bulk': how many values and letters a reading holds, each counted each time it is reached (what is shared counts as often as it is met; a slice's spare places count too). A statement '..UptoSaid' is the law's where the arguments, and the package variables that the reading takes, are together of bulk at most 1048576: NARROWER than '..Said'. Prove '..Said' where nothing that the law and all that it calls make is longer than what came in: it says more and counts as full. Else prove '..UptoSaid'. A law counts once. -/
mutual
def uptoBulk {H : Type} : DataW H → Nat
  | .lit (.string bytes) => bytes.length + 1
  | .lit _ => 1
  | .nil => 1
  | .ptr d => uptoBulk d + 1
  | .slice elems spare => uptoBulkAll elems + uptoBulkAll spare + 1
  | .agg parts => uptoBulkAll parts + 1
  | .iface _ d => uptoBulk d + 1
  | .map entries => uptoBulkEntries entries + 1
  | .held _ => 1
def uptoBulkAll {H : Type} : List (DataW H) → Nat
  | [] => 0
  | d :: r => uptoBulk d + uptoBulkAll r
def uptoBulkEntries {H : Type} : List (Lit × DataW H) → Nat
  | [] => 0
  | x :: r => uptoBulkEntry x + uptoBulkEntries r
def uptoBulkEntry {H : Type} : Lit × DataW H → Nat
  | (.string bytes, d) => bytes.length + uptoBulk d + 1
  | (_, d) => uptoBulk d + 1
 end
def uptoSmall : (H : Type) → List (DataW H) → Bool := fun _ ds => decide (uptoBulkAll ds ≤ 1048576)
def OpenSpec.upto (s : _root_.Go.ChangeSpec) : _root_.Go.OpenSpec := { _root_.Go.OpenSpec.ofChange s with cond := some uptoSmall }

/-- 'laws.FnPackLeasesFirst', WHERE WHAT IT READS IS OF BULK AT MOST 1048576: true; the input reads as it did. -/
def fnPackLeasesFirstUptoRow : OpenClaim := { program := "ythbemokpdcipaaa", sum := "759f42d69ace2bef23f5570800d4f0c3db878b6c6b3f357d331c9e3d7abd0b40", func := "loop.example/connectionpool/laws.FnPackLeasesFirst", spec := "fnPackLeasesFirst", unfollowed := true, recurses := true, apart := false, narrowed := true }
def FnPackLeasesFirstUptoSaid : Prop := fnPackLeasesFirstUptoRow.holds Try.pinned (OpenSpec.upto fnPackLeasesFirstSpec)

/-- 'laws.FnPackLeasesTwice', WHERE WHAT IT READS IS OF BULK AT MOST 1048576: true; the input reads as it did. -/
def fnPackLeasesTwiceUptoRow : OpenClaim := { program := "ythbemokpdcipaaa", sum := "759f42d69ace2bef23f5570800d4f0c3db878b6c6b3f357d331c9e3d7abd0b40", func := "loop.example/connectionpool/laws.FnPackLeasesTwice", spec := "fnPackLeasesTwice", unfollowed := true, recurses := true, apart := false, narrowed := true }
def FnPackLeasesTwiceUptoSaid : Prop := fnPackLeasesTwiceUptoRow.holds Try.pinned (OpenSpec.upto fnPackLeasesTwiceSpec)

/-- 'laws.FnExactPackLeases', WHERE WHAT IT READS IS OF BULK AT MOST 1048576: true; the input reads as it did. -/
def fnExactPackLeasesUptoRow : OpenClaim := { program := "ythbemokpdcipaaa", sum := "759f42d69ace2bef23f5570800d4f0c3db878b6c6b3f357d331c9e3d7abd0b40", func := "loop.example/connectionpool/laws.FnExactPackLeases", spec := "fnExactPackLeases", unfollowed := true, recurses := true, apart := false, narrowed := true }
def FnExactPackLeasesUptoSaid : Prop := fnExactPackLeasesUptoRow.holds Try.pinned (OpenSpec.upto fnExactPackLeasesSpec)

/-- 'laws.FnExactMeanLeased', WHERE WHAT IT READS IS OF BULK AT MOST 1048576: true; the input reads as it did. -/
def fnExactMeanLeasedUptoRow : OpenClaim := { program := "ythbemokpdcipaaa", sum := "759f42d69ace2bef23f5570800d4f0c3db878b6c6b3f357d331c9e3d7abd0b40", func := "loop.example/connectionpool/laws.FnExactMeanLeased", spec := "fnExactMeanLeased", unfollowed := true, recurses := true, apart := false, narrowed := true }
def FnExactMeanLeasedUptoSaid : Prop := fnExactMeanLeasedUptoRow.holds Try.pinned (OpenSpec.upto fnExactMeanLeasedSpec)

/-- 'laws.FnMeanLeasedMore', WHERE WHAT IT READS IS OF BULK AT MOST 1048576: true; the input reads as it did. -/
def fnMeanLeasedMoreUptoRow : OpenClaim := { program := "ythbemokpdcipaaa", sum := "759f42d69ace2bef23f5570800d4f0c3db878b6c6b3f357d331c9e3d7abd0b40", func := "loop.example/connectionpool/laws.FnMeanLeasedMore", spec := "fnMeanLeasedMore", unfollowed := true, recurses := true, apart := false, narrowed := true }
def FnMeanLeasedMoreUptoSaid : Prop := fnMeanLeasedMoreUptoRow.holds Try.pinned (OpenSpec.upto fnMeanLeasedMoreSpec)

/-- 'laws.FnExactMostLeased', WHERE WHAT IT READS IS OF BULK AT MOST 1048576: true; the input reads as it did. -/
def fnExactMostLeasedUptoRow : OpenClaim := { program := "ythbemokpdcipaaa", sum := "759f42d69ace2bef23f5570800d4f0c3db878b6c6b3f357d331c9e3d7abd0b40", func := "loop.example/connectionpool/laws.FnExactMostLeased", spec := "fnExactMostLeased", unfollowed := true, recurses := true, apart := false, narrowed := true }
def FnExactMostLeasedUptoSaid : Prop := fnExactMostLeasedUptoRow.holds Try.pinned (OpenSpec.upto fnExactMostLeasedSpec)

/-- 'laws.FnMostLeased', WHERE WHAT IT READS IS OF BULK AT MOST 1048576: true; the input reads as it did. -/
def fnMostLeasedUptoRow : OpenClaim := { program := "ythbemokpdcipaaa", sum := "759f42d69ace2bef23f5570800d4f0c3db878b6c6b3f357d331c9e3d7abd0b40", func := "loop.example/connectionpool/laws.FnMostLeased", spec := "fnMostLeased", unfollowed := true, recurses := true, apart := false, narrowed := true }
def FnMostLeasedUptoSaid : Prop := fnMostLeasedUptoRow.holds Try.pinned (OpenSpec.upto fnMostLeasedSpec)

/-- 'laws.FnMostLeasedMore', WHERE WHAT IT READS IS OF BULK AT MOST 1048576: true; the input reads as it did. -/
def fnMostLeasedMoreUptoRow : OpenClaim := { program := "ythbemokpdcipaaa", sum := "759f42d69ace2bef23f5570800d4f0c3db878b6c6b3f357d331c9e3d7abd0b40", func := "loop.example/connectionpool/laws.FnMostLeasedMore", spec := "fnMostLeasedMore", unfollowed := true, recurses := true, apart := false, narrowed := true }
def FnMostLeasedMoreUptoSaid : Prop := fnMostLeasedMoreUptoRow.holds Try.pinned (OpenSpec.upto fnMostLeasedMoreSpec)

/-- 'laws.FnMeanLeased', WHERE WHAT IT READS IS OF BULK AT MOST 1048576: true; the input reads as it did. -/
def fnMeanLeasedUptoRow : OpenClaim := { program := "ythbemokpdcipaaa", sum := "759f42d69ace2bef23f5570800d4f0c3db878b6c6b3f357d331c9e3d7abd0b40", func := "loop.example/connectionpool/laws.FnMeanLeased", spec := "fnMeanLeased", unfollowed := true, recurses := true, apart := false, narrowed := true }
def FnMeanLeasedUptoSaid : Prop := fnMeanLeasedUptoRow.holds Try.pinned (OpenSpec.upto fnMeanLeasedSpec)

/-- 'laws.FnBusyAt', WHERE WHAT IT READS IS OF BULK AT MOST 1048576: true; the input reads as it did. -/
def fnBusyAtUptoRow : OpenClaim := { program := "ythbemokpdcipaaa", sum := "759f42d69ace2bef23f5570800d4f0c3db878b6c6b3f357d331c9e3d7abd0b40", func := "loop.example/connectionpool/laws.FnBusyAt", spec := "fnBusyAt", unfollowed := true, recurses := true, apart := false, narrowed := true }
def FnBusyAtUptoSaid : Prop := fnBusyAtUptoRow.holds Try.pinned (OpenSpec.upto fnBusyAtSpec)

end Rows
end Go.Proofs.Ythbemokpdcipaaa
