/-
  No cell of these rows narrows 'for every input' (looked for: loops, veiled, ifaces, maps, wideKeys, modest, calm, conditions, laid).
  DERIVED. THE GIVEN ROWS OF THIS SEAT. 14 by the template 'for every input the law returns true; each argument reads behind the call as it read before'; 0 by the template 'total and deterministic' (their statements: YtmkpdcikpjpeaaaTotals.lean).
  GIVEN WITH THE SEED: the statements are not yours to turn. If you find one false, say at which input.
  Laid BY PROGRAM, IN A SANDBOX (cutbox-rows.mjs): the forced cells as the released guide's own fill.sh prints them over the translation 23d6aa3698cc5c03… (all of the seat's roots in one cut). By AI agents, Wed Nov 11 2026. No macro, syntax, notation, axiom, sorry.
-/
import Derived.Test.YtmkpdcikpjpeaaaChecked
import GoSem.Claim
import GoSem.ClaimJoined
import GoSem.ClaimMapViews
import Derived.JoinedTies
import Derived.KernelRfl
namespace Go.Proofs.Ytmkpdcikpjpeaaa
/- THE CELL 'sum', in the pinned program and in every row, IS THE sha256 OF THE DUMP (.gsa) THAT YtmkpdcikpjpeaaaProg.lean LOADS. Nothing in Lean hashes anything: it is a label: what it is worth is what the hold of that sum in a sandbox is worth. -/
noncomputable def Try.pinned : Pinned := { name := "ytmkpdcikpjpeaaa", sum := "23d6aa3698cc5c03f600ec650b846dfe6f47c4f0002f8ae3e6d5b3dc390d988a", checked := Try.checked }
namespace Rows
def none {H : Type} : Left H := { results := [], args := [] }

/-- 'laws.FnValidAges': WHATEVER THE INPUT: true; the input reads as it did. -/
def fnValidAgesSpec : ChangeSpec := { name := "fnValidAges", fn := fun _ => fun
  | [d] => { results := [.lit (.bool true)], args := [d] }
  | _ => none }
def fnValidAgesRow : OpenClaim := { program := "ytmkpdcikpjpeaaa", sum := "23d6aa3698cc5c03f600ec650b846dfe6f47c4f0002f8ae3e6d5b3dc390d988a", func := "loop.example/connectionpool/laws.FnValidAges", spec := "fnValidAges", unfollowed := true, recurses := true, apart := false }
def FnValidAgesSaid : Prop := fnValidAgesRow.holds Try.pinned (OpenSpec.ofChange fnValidAgesSpec)

/-- ITS FALSE NEIGHBOUR: 'it returns false'. Refute it at one input. -/
def fnValidAgesWrong : ChangeSpec := { name := "fnValidAges", fn := fun _ => fun
  | [d] => { results := [.lit (.bool false)], args := [d] }
  | _ => none }
def FnValidAgesWrongFalsely : Prop := fnValidAgesRow.holds Try.pinned (OpenSpec.ofChange fnValidAgesWrong)

/-- 'laws.FnValidAgesTouch': WHATEVER THE INPUT: true; the input reads as it did. -/
def fnValidAgesTouchSpec : ChangeSpec := { name := "fnValidAgesTouch", fn := fun _ => fun
  | [d] => { results := [.lit (.bool true)], args := [d] }
  | _ => none }
def fnValidAgesTouchRow : OpenClaim := { program := "ytmkpdcikpjpeaaa", sum := "23d6aa3698cc5c03f600ec650b846dfe6f47c4f0002f8ae3e6d5b3dc390d988a", func := "loop.example/connectionpool/laws.FnValidAgesTouch", spec := "fnValidAgesTouch", unfollowed := true, recurses := true, apart := false }
def FnValidAgesTouchSaid : Prop := fnValidAgesTouchRow.holds Try.pinned (OpenSpec.ofChange fnValidAgesTouchSpec)

/-- ITS FALSE NEIGHBOUR: 'it returns false'. Refute it at one input. -/
def fnValidAgesTouchWrong : ChangeSpec := { name := "fnValidAgesTouch", fn := fun _ => fun
  | [d] => { results := [.lit (.bool false)], args := [d] }
  | _ => none }
def FnValidAgesTouchWrongFalsely : Prop := fnValidAgesTouchRow.holds Try.pinned (OpenSpec.ofChange fnValidAgesTouchWrong)

/-- 'laws.FnExactValidAges': WHATEVER THE INPUT: true; the input reads as it did. -/
def fnExactValidAgesSpec : ChangeSpec := { name := "fnExactValidAges", fn := fun _ => fun
  | [d] => { results := [.lit (.bool true)], args := [d] }
  | _ => none }
def fnExactValidAgesRow : OpenClaim := { program := "ytmkpdcikpjpeaaa", sum := "23d6aa3698cc5c03f600ec650b846dfe6f47c4f0002f8ae3e6d5b3dc390d988a", func := "loop.example/connectionpool/laws.FnExactValidAges", spec := "fnExactValidAges", unfollowed := true, recurses := true, apart := false }
def FnExactValidAgesSaid : Prop := fnExactValidAgesRow.holds Try.pinned (OpenSpec.ofChange fnExactValidAgesSpec)

/-- ITS FALSE NEIGHBOUR: 'it returns false'. Refute it at one input. -/
def fnExactValidAgesWrong : ChangeSpec := { name := "fnExactValidAges", fn := fun _ => fun
  | [d] => { results := [.lit (.bool false)], args := [d] }
  | _ => none }
def FnExactValidAgesWrongFalsely : Prop := fnExactValidAgesRow.holds Try.pinned (OpenSpec.ofChange fnExactValidAgesWrong)

/-- 'laws.FnExactNextEnd': WHATEVER THE INPUT: true; the input reads as it did. -/
def fnExactNextEndSpec : ChangeSpec := { name := "fnExactNextEnd", fn := fun _ => fun
  | [d1, d2, d3] => { results := [.lit (.bool true)], args := [d1, d2, d3] }
  | _ => none }
def fnExactNextEndRow : OpenClaim := { program := "ytmkpdcikpjpeaaa", sum := "23d6aa3698cc5c03f600ec650b846dfe6f47c4f0002f8ae3e6d5b3dc390d988a", func := "loop.example/connectionpool/laws.FnExactNextEnd", spec := "fnExactNextEnd", unfollowed := true, recurses := true, apart := false }
def FnExactNextEndSaid : Prop := fnExactNextEndRow.holds Try.pinned (OpenSpec.ofChange fnExactNextEndSpec)

/-- ITS FALSE NEIGHBOUR: 'it returns false'. Refute it at one input. -/
def fnExactNextEndWrong : ChangeSpec := { name := "fnExactNextEnd", fn := fun _ => fun
  | [d1, d2, d3] => { results := [.lit (.bool false)], args := [d1, d2, d3] }
  | _ => none }
def FnExactNextEndWrongFalsely : Prop := fnExactNextEndRow.holds Try.pinned (OpenSpec.ofChange fnExactNextEndWrong)

/-- 'laws.FnNextEndNone': WHATEVER THE INPUT: true; the input reads as it did. -/
def fnNextEndNoneSpec : ChangeSpec := { name := "fnNextEndNone", fn := fun _ => fun
  | [d] => { results := [.lit (.bool true)], args := [d] }
  | _ => none }
def fnNextEndNoneRow : OpenClaim := { program := "ytmkpdcikpjpeaaa", sum := "23d6aa3698cc5c03f600ec650b846dfe6f47c4f0002f8ae3e6d5b3dc390d988a", func := "loop.example/connectionpool/laws.FnNextEndNone", spec := "fnNextEndNone", unfollowed := true, recurses := true, apart := false }
def FnNextEndNoneSaid : Prop := fnNextEndNoneRow.holds Try.pinned (OpenSpec.ofChange fnNextEndNoneSpec)

/-- ITS FALSE NEIGHBOUR: 'it returns false'. Refute it at one input. -/
def fnNextEndNoneWrong : ChangeSpec := { name := "fnNextEndNone", fn := fun _ => fun
  | [d] => { results := [.lit (.bool false)], args := [d] }
  | _ => none }
def FnNextEndNoneWrongFalsely : Prop := fnNextEndNoneRow.holds Try.pinned (OpenSpec.ofChange fnNextEndNoneWrong)

/-- 'laws.FnNextEndTouch': WHATEVER THE INPUT: true; the input reads as it did. -/
def fnNextEndTouchSpec : ChangeSpec := { name := "fnNextEndTouch", fn := fun _ => fun
  | [d] => { results := [.lit (.bool true)], args := [d] }
  | _ => none }
def fnNextEndTouchRow : OpenClaim := { program := "ytmkpdcikpjpeaaa", sum := "23d6aa3698cc5c03f600ec650b846dfe6f47c4f0002f8ae3e6d5b3dc390d988a", func := "loop.example/connectionpool/laws.FnNextEndTouch", spec := "fnNextEndTouch", unfollowed := true, recurses := true, apart := false }
def FnNextEndTouchSaid : Prop := fnNextEndTouchRow.holds Try.pinned (OpenSpec.ofChange fnNextEndTouchSpec)

/-- ITS FALSE NEIGHBOUR: 'it returns false'. Refute it at one input. -/
def fnNextEndTouchWrong : ChangeSpec := { name := "fnNextEndTouch", fn := fun _ => fun
  | [d] => { results := [.lit (.bool false)], args := [d] }
  | _ => none }
def FnNextEndTouchWrongFalsely : Prop := fnNextEndTouchRow.holds Try.pinned (OpenSpec.ofChange fnNextEndTouchWrong)

/-- 'laws.FnTouchConn': WHATEVER THE INPUT: true; the input reads as it did. -/
def fnTouchConnSpec : ChangeSpec := { name := "fnTouchConn", fn := fun _ => fun
  | [d] => { results := [.lit (.bool true)], args := [d] }
  | _ => none }
def fnTouchConnRow : OpenClaim := { program := "ytmkpdcikpjpeaaa", sum := "23d6aa3698cc5c03f600ec650b846dfe6f47c4f0002f8ae3e6d5b3dc390d988a", func := "loop.example/connectionpool/laws.FnTouchConn", spec := "fnTouchConn", unfollowed := true, recurses := true, apart := false }
def FnTouchConnSaid : Prop := fnTouchConnRow.holds Try.pinned (OpenSpec.ofChange fnTouchConnSpec)

/-- ITS FALSE NEIGHBOUR: 'it returns false'. Refute it at one input. -/
def fnTouchConnWrong : ChangeSpec := { name := "fnTouchConn", fn := fun _ => fun
  | [d] => { results := [.lit (.bool false)], args := [d] }
  | _ => none }
def FnTouchConnWrongFalsely : Prop := fnTouchConnRow.holds Try.pinned (OpenSpec.ofChange fnTouchConnWrong)

/-- 'laws.FnNextEnd': WHATEVER THE INPUT: true; the input reads as it did. -/
def fnNextEndSpec : ChangeSpec := { name := "fnNextEnd", fn := fun _ => fun
  | [d] => { results := [.lit (.bool true)], args := [d] }
  | _ => none }
def fnNextEndRow : OpenClaim := { program := "ytmkpdcikpjpeaaa", sum := "23d6aa3698cc5c03f600ec650b846dfe6f47c4f0002f8ae3e6d5b3dc390d988a", func := "loop.example/connectionpool/laws.FnNextEnd", spec := "fnNextEnd", unfollowed := true, recurses := true, apart := false }
def FnNextEndSaid : Prop := fnNextEndRow.holds Try.pinned (OpenSpec.ofChange fnNextEndSpec)

/-- ITS FALSE NEIGHBOUR: 'it returns false'. Refute it at one input. -/
def fnNextEndWrong : ChangeSpec := { name := "fnNextEnd", fn := fun _ => fun
  | [d] => { results := [.lit (.bool false)], args := [d] }
  | _ => none }
def FnNextEndWrongFalsely : Prop := fnNextEndRow.holds Try.pinned (OpenSpec.ofChange fnNextEndWrong)

/-- 'laws.FnExactTouchConn': WHATEVER THE INPUT: true; the input reads as it did. -/
def fnExactTouchConnSpec : ChangeSpec := { name := "fnExactTouchConn", fn := fun _ => fun
  | [d1, d2, d3] => { results := [.lit (.bool true)], args := [d1, d2, d3] }
  | _ => none }
def fnExactTouchConnRow : OpenClaim := { program := "ytmkpdcikpjpeaaa", sum := "23d6aa3698cc5c03f600ec650b846dfe6f47c4f0002f8ae3e6d5b3dc390d988a", func := "loop.example/connectionpool/laws.FnExactTouchConn", spec := "fnExactTouchConn", unfollowed := true, recurses := true, apart := false }
def FnExactTouchConnSaid : Prop := fnExactTouchConnRow.holds Try.pinned (OpenSpec.ofChange fnExactTouchConnSpec)

/-- ITS FALSE NEIGHBOUR: 'it returns false'. Refute it at one input. -/
def fnExactTouchConnWrong : ChangeSpec := { name := "fnExactTouchConn", fn := fun _ => fun
  | [d1, d2, d3] => { results := [.lit (.bool false)], args := [d1, d2, d3] }
  | _ => none }
def FnExactTouchConnWrongFalsely : Prop := fnExactTouchConnRow.holds Try.pinned (OpenSpec.ofChange fnExactTouchConnWrong)

/-- 'laws.FnTouchConnEnd': WHATEVER THE INPUT: true; the input reads as it did. -/
def fnTouchConnEndSpec : ChangeSpec := { name := "fnTouchConnEnd", fn := fun _ => fun
  | [d] => { results := [.lit (.bool true)], args := [d] }
  | _ => none }
def fnTouchConnEndRow : OpenClaim := { program := "ytmkpdcikpjpeaaa", sum := "23d6aa3698cc5c03f600ec650b846dfe6f47c4f0002f8ae3e6d5b3dc390d988a", func := "loop.example/connectionpool/laws.FnTouchConnEnd", spec := "fnTouchConnEnd", unfollowed := true, recurses := true, apart := false }
def FnTouchConnEndSaid : Prop := fnTouchConnEndRow.holds Try.pinned (OpenSpec.ofChange fnTouchConnEndSpec)

/-- ITS FALSE NEIGHBOUR: 'it returns false'. Refute it at one input. -/
def fnTouchConnEndWrong : ChangeSpec := { name := "fnTouchConnEnd", fn := fun _ => fun
  | [d] => { results := [.lit (.bool false)], args := [d] }
  | _ => none }
def FnTouchConnEndWrongFalsely : Prop := fnTouchConnEndRow.holds Try.pinned (OpenSpec.ofChange fnTouchConnEndWrong)

/-- 'laws.FnEndedConnsLater': WHATEVER THE INPUT: true; the input reads as it did. -/
def fnEndedConnsLaterSpec : ChangeSpec := { name := "fnEndedConnsLater", fn := fun _ => fun
  | [d] => { results := [.lit (.bool true)], args := [d] }
  | _ => none }
def fnEndedConnsLaterRow : OpenClaim := { program := "ytmkpdcikpjpeaaa", sum := "23d6aa3698cc5c03f600ec650b846dfe6f47c4f0002f8ae3e6d5b3dc390d988a", func := "loop.example/connectionpool/laws.FnEndedConnsLater", spec := "fnEndedConnsLater", unfollowed := true, recurses := true, apart := false }
def FnEndedConnsLaterSaid : Prop := fnEndedConnsLaterRow.holds Try.pinned (OpenSpec.ofChange fnEndedConnsLaterSpec)

/-- ITS FALSE NEIGHBOUR: 'it returns false'. Refute it at one input. -/
def fnEndedConnsLaterWrong : ChangeSpec := { name := "fnEndedConnsLater", fn := fun _ => fun
  | [d] => { results := [.lit (.bool false)], args := [d] }
  | _ => none }
def FnEndedConnsLaterWrongFalsely : Prop := fnEndedConnsLaterRow.holds Try.pinned (OpenSpec.ofChange fnEndedConnsLaterWrong)

/-- 'laws.FnEndedConnsLife': WHATEVER THE INPUT: true; the input reads as it did. -/
def fnEndedConnsLifeSpec : ChangeSpec := { name := "fnEndedConnsLife", fn := fun _ => fun
  | [d] => { results := [.lit (.bool true)], args := [d] }
  | _ => none }
def fnEndedConnsLifeRow : OpenClaim := { program := "ytmkpdcikpjpeaaa", sum := "23d6aa3698cc5c03f600ec650b846dfe6f47c4f0002f8ae3e6d5b3dc390d988a", func := "loop.example/connectionpool/laws.FnEndedConnsLife", spec := "fnEndedConnsLife", unfollowed := true, recurses := true, apart := false }
def FnEndedConnsLifeSaid : Prop := fnEndedConnsLifeRow.holds Try.pinned (OpenSpec.ofChange fnEndedConnsLifeSpec)

/-- ITS FALSE NEIGHBOUR: 'it returns false'. Refute it at one input. -/
def fnEndedConnsLifeWrong : ChangeSpec := { name := "fnEndedConnsLife", fn := fun _ => fun
  | [d] => { results := [.lit (.bool false)], args := [d] }
  | _ => none }
def FnEndedConnsLifeWrongFalsely : Prop := fnEndedConnsLifeRow.holds Try.pinned (OpenSpec.ofChange fnEndedConnsLifeWrong)

/-- 'laws.FnEndedConns': WHATEVER THE INPUT: true; the input reads as it did. -/
def fnEndedConnsSpec : ChangeSpec := { name := "fnEndedConns", fn := fun _ => fun
  | [d] => { results := [.lit (.bool true)], args := [d] }
  | _ => none }
def fnEndedConnsRow : OpenClaim := { program := "ytmkpdcikpjpeaaa", sum := "23d6aa3698cc5c03f600ec650b846dfe6f47c4f0002f8ae3e6d5b3dc390d988a", func := "loop.example/connectionpool/laws.FnEndedConns", spec := "fnEndedConns", unfollowed := true, recurses := true, apart := false }
def FnEndedConnsSaid : Prop := fnEndedConnsRow.holds Try.pinned (OpenSpec.ofChange fnEndedConnsSpec)

/-- ITS FALSE NEIGHBOUR: 'it returns false'. Refute it at one input. -/
def fnEndedConnsWrong : ChangeSpec := { name := "fnEndedConns", fn := fun _ => fun
  | [d] => { results := [.lit (.bool false)], args := [d] }
  | _ => none }
def FnEndedConnsWrongFalsely : Prop := fnEndedConnsRow.holds Try.pinned (OpenSpec.ofChange fnEndedConnsWrong)

/-- 'laws.FnExactEndedConns': WHATEVER THE INPUT: true; the input reads as it did. -/
def fnExactEndedConnsSpec : ChangeSpec := { name := "fnExactEndedConns", fn := fun _ => fun
  | [d1, d2, d3, d4] => { results := [.lit (.bool true)], args := [d1, d2, d3, d4] }
  | _ => none }
def fnExactEndedConnsRow : OpenClaim := { program := "ytmkpdcikpjpeaaa", sum := "23d6aa3698cc5c03f600ec650b846dfe6f47c4f0002f8ae3e6d5b3dc390d988a", func := "loop.example/connectionpool/laws.FnExactEndedConns", spec := "fnExactEndedConns", unfollowed := true, recurses := true, apart := false }
def FnExactEndedConnsSaid : Prop := fnExactEndedConnsRow.holds Try.pinned (OpenSpec.ofChange fnExactEndedConnsSpec)

/-- ITS FALSE NEIGHBOUR: 'it returns false'. Refute it at one input. -/
def fnExactEndedConnsWrong : ChangeSpec := { name := "fnExactEndedConns", fn := fun _ => fun
  | [d1, d2, d3, d4] => { results := [.lit (.bool false)], args := [d1, d2, d3, d4] }
  | _ => none }
def FnExactEndedConnsWrongFalsely : Prop := fnExactEndedConnsRow.holds Try.pinned (OpenSpec.ofChange fnExactEndedConnsWrong)

/- THE SECOND FORM. 'bulk': how many values and letters a reading holds, each counted each time it is reached (what is shared counts as often as it is met; a slice's spare places count too). A statement '..UptoSaid' is the law's where the arguments, and the package variables that the reading takes, are together of bulk at most 1048576: NARROWER than '..Said'. Prove '..Said' where nothing that the law and all that it calls make is longer than what came in: it says more and counts as full. Else prove '..UptoSaid'. A law counts once. -/
mutual
def uptoBulk {H : Type} : DataW H → Nat
  | .lit (.string bytes) => bytes.length + 1
  | .lit _ => 1
  | .nil => 1
  | .ptr d => uptoBulk d + 1
  | .slice elems spare => uptoBulkAll elems + uptoBulkAll spare + 1
  | .agg parts => uptoBulkAll parts + 1
  | .iface _ d => uptoBulk d + 1
  | .map entries => uptoBulkEntries entries + 1
  | .held _ => 1
def uptoBulkAll {H : Type} : List (DataW H) → Nat
  | [] => 0
  | d :: r => uptoBulk d + uptoBulkAll r
def uptoBulkEntries {H : Type} : List (Lit × DataW H) → Nat
  | [] => 0
  | x :: r => uptoBulkEntry x + uptoBulkEntries r
def uptoBulkEntry {H : Type} : Lit × DataW H → Nat
  | (.string bytes, d) => bytes.length + uptoBulk d + 1
  | (_, d) => uptoBulk d + 1
 end
def uptoSmall : (H : Type) → List (DataW H) → Bool := fun _ ds => decide (uptoBulkAll ds ≤ 1048576)
def OpenSpec.upto (s : _root_.Go.ChangeSpec) : _root_.Go.OpenSpec := { _root_.Go.OpenSpec.ofChange s with cond := some uptoSmall }

/-- 'laws.FnValidAges', WHERE WHAT IT READS IS OF BULK AT MOST 1048576: true; the input reads as it did. -/
def fnValidAgesUptoRow : OpenClaim := { program := "ytmkpdcikpjpeaaa", sum := "23d6aa3698cc5c03f600ec650b846dfe6f47c4f0002f8ae3e6d5b3dc390d988a", func := "loop.example/connectionpool/laws.FnValidAges", spec := "fnValidAges", unfollowed := true, recurses := true, apart := false, narrowed := true }
def FnValidAgesUptoSaid : Prop := fnValidAgesUptoRow.holds Try.pinned (OpenSpec.upto fnValidAgesSpec)

/-- 'laws.FnValidAgesTouch', WHERE WHAT IT READS IS OF BULK AT MOST 1048576: true; the input reads as it did. -/
def fnValidAgesTouchUptoRow : OpenClaim := { program := "ytmkpdcikpjpeaaa", sum := "23d6aa3698cc5c03f600ec650b846dfe6f47c4f0002f8ae3e6d5b3dc390d988a", func := "loop.example/connectionpool/laws.FnValidAgesTouch", spec := "fnValidAgesTouch", unfollowed := true, recurses := true, apart := false, narrowed := true }
def FnValidAgesTouchUptoSaid : Prop := fnValidAgesTouchUptoRow.holds Try.pinned (OpenSpec.upto fnValidAgesTouchSpec)

/-- 'laws.FnExactValidAges', WHERE WHAT IT READS IS OF BULK AT MOST 1048576: true; the input reads as it did. -/
def fnExactValidAgesUptoRow : OpenClaim := { program := "ytmkpdcikpjpeaaa", sum := "23d6aa3698cc5c03f600ec650b846dfe6f47c4f0002f8ae3e6d5b3dc390d988a", func := "loop.example/connectionpool/laws.FnExactValidAges", spec := "fnExactValidAges", unfollowed := true, recurses := true, apart := false, narrowed := true }
def FnExactValidAgesUptoSaid : Prop := fnExactValidAgesUptoRow.holds Try.pinned (OpenSpec.upto fnExactValidAgesSpec)

/-- 'laws.FnExactNextEnd', WHERE WHAT IT READS IS OF BULK AT MOST 1048576: true; the input reads as it did. -/
def fnExactNextEndUptoRow : OpenClaim := { program := "ytmkpdcikpjpeaaa", sum := "23d6aa3698cc5c03f600ec650b846dfe6f47c4f0002f8ae3e6d5b3dc390d988a", func := "loop.example/connectionpool/laws.FnExactNextEnd", spec := "fnExactNextEnd", unfollowed := true, recurses := true, apart := false, narrowed := true }
def FnExactNextEndUptoSaid : Prop := fnExactNextEndUptoRow.holds Try.pinned (OpenSpec.upto fnExactNextEndSpec)

/-- 'laws.FnNextEndNone', WHERE WHAT IT READS IS OF BULK AT MOST 1048576: true; the input reads as it did. -/
def fnNextEndNoneUptoRow : OpenClaim := { program := "ytmkpdcikpjpeaaa", sum := "23d6aa3698cc5c03f600ec650b846dfe6f47c4f0002f8ae3e6d5b3dc390d988a", func := "loop.example/connectionpool/laws.FnNextEndNone", spec := "fnNextEndNone", unfollowed := true, recurses := true, apart := false, narrowed := true }
def FnNextEndNoneUptoSaid : Prop := fnNextEndNoneUptoRow.holds Try.pinned (OpenSpec.upto fnNextEndNoneSpec)

/-- 'laws.FnNextEndTouch', WHERE WHAT IT READS IS OF BULK AT MOST 1048576: true; the input reads as it did. -/
def fnNextEndTouchUptoRow : OpenClaim := { program := "ytmkpdcikpjpeaaa", sum := "23d6aa3698cc5c03f600ec650b846dfe6f47c4f0002f8ae3e6d5b3dc390d988a", func := "loop.example/connectionpool/laws.FnNextEndTouch", spec := "fnNextEndTouch", unfollowed := true, recurses := true, apart := false, narrowed := true }
def FnNextEndTouchUptoSaid : Prop := fnNextEndTouchUptoRow.holds Try.pinned (OpenSpec.upto fnNextEndTouchSpec)

/-- 'laws.FnTouchConn', WHERE WHAT IT READS IS OF BULK AT MOST 1048576: true; the input reads as it did. -/
def fnTouchConnUptoRow : OpenClaim := { program := "ytmkpdcikpjpeaaa", sum := "23d6aa3698cc5c03f600ec650b846dfe6f47c4f0002f8ae3e6d5b3dc390d988a", func := "loop.example/connectionpool/laws.FnTouchConn", spec := "fnTouchConn", unfollowed := true, recurses := true, apart := false, narrowed := true }
def FnTouchConnUptoSaid : Prop := fnTouchConnUptoRow.holds Try.pinned (OpenSpec.upto fnTouchConnSpec)

/-- 'laws.FnNextEnd', WHERE WHAT IT READS IS OF BULK AT MOST 1048576: true; the input reads as it did. -/
def fnNextEndUptoRow : OpenClaim := { program := "ytmkpdcikpjpeaaa", sum := "23d6aa3698cc5c03f600ec650b846dfe6f47c4f0002f8ae3e6d5b3dc390d988a", func := "loop.example/connectionpool/laws.FnNextEnd", spec := "fnNextEnd", unfollowed := true, recurses := true, apart := false, narrowed := true }
def FnNextEndUptoSaid : Prop := fnNextEndUptoRow.holds Try.pinned (OpenSpec.upto fnNextEndSpec)

/-- 'laws.FnExactTouchConn', WHERE WHAT IT READS IS OF BULK AT MOST 1048576: true; the input reads as it did. -/
def fnExactTouchConnUptoRow : OpenClaim := { program := "ytmkpdcikpjpeaaa", sum := "23d6aa3698cc5c03f600ec650b846dfe6f47c4f0002f8ae3e6d5b3dc390d988a", func := "loop.example/connectionpool/laws.FnExactTouchConn", spec := "fnExactTouchConn", unfollowed := true, recurses := true, apart := false, narrowed := true }
def FnExactTouchConnUptoSaid : Prop := fnExactTouchConnUptoRow.holds Try.pinned (OpenSpec.upto fnExactTouchConnSpec)

/-- 'laws.FnTouchConnEnd', WHERE WHAT IT READS IS OF BULK AT MOST 1048576: true; the input reads as it did. -/
def fnTouchConnEndUptoRow : OpenClaim := { program := "ytmkpdcikpjpeaaa", sum := "23d6aa3698cc5c03f600ec650b846dfe6f47c4f0002f8ae3e6d5b3dc390d988a", func := "loop.example/connectionpool/laws.FnTouchConnEnd", spec := "fnTouchConnEnd", unfollowed := true, recurses := true, apart := false, narrowed := true }
def FnTouchConnEndUptoSaid : Prop := fnTouchConnEndUptoRow.holds Try.pinned (OpenSpec.upto fnTouchConnEndSpec)

/-- 'laws.FnEndedConnsLater', WHERE WHAT IT READS IS OF BULK AT MOST 1048576: true; the input reads as it did. -/
def fnEndedConnsLaterUptoRow : OpenClaim := { program := "ytmkpdcikpjpeaaa", sum := "23d6aa3698cc5c03f600ec650b846dfe6f47c4f0002f8ae3e6d5b3dc390d988a", func := "loop.example/connectionpool/laws.FnEndedConnsLater", spec := "fnEndedConnsLater", unfollowed := true, recurses := true, apart := false, narrowed := true }
def FnEndedConnsLaterUptoSaid : Prop := fnEndedConnsLaterUptoRow.holds Try.pinned (OpenSpec.upto fnEndedConnsLaterSpec)

/-- 'laws.FnEndedConnsLife', WHERE WHAT IT READS IS OF BULK AT MOST 1048576: true; the input reads as it did. -/
def fnEndedConnsLifeUptoRow : OpenClaim := { program := "ytmkpdcikpjpeaaa", sum := "23d6aa3698cc5c03f600ec650b846dfe6f47c4f0002f8ae3e6d5b3dc390d988a", func := "loop.example/connectionpool/laws.FnEndedConnsLife", spec := "fnEndedConnsLife", unfollowed := true, recurses := true, apart := false, narrowed := true }
def FnEndedConnsLifeUptoSaid : Prop := fnEndedConnsLifeUptoRow.holds Try.pinned (OpenSpec.upto fnEndedConnsLifeSpec)

/-- 'laws.FnEndedConns', WHERE WHAT IT READS IS OF BULK AT MOST 1048576: true; the input reads as it did. -/
def fnEndedConnsUptoRow : OpenClaim := { program := "ytmkpdcikpjpeaaa", sum := "23d6aa3698cc5c03f600ec650b846dfe6f47c4f0002f8ae3e6d5b3dc390d988a", func := "loop.example/connectionpool/laws.FnEndedConns", spec := "fnEndedConns", unfollowed := true, recurses := true, apart := false, narrowed := true }
def FnEndedConnsUptoSaid : Prop := fnEndedConnsUptoRow.holds Try.pinned (OpenSpec.upto fnEndedConnsSpec)

/-- 'laws.FnExactEndedConns', WHERE WHAT IT READS IS OF BULK AT MOST 1048576: true; the input reads as it did. -/
def fnExactEndedConnsUptoRow : OpenClaim := { program := "ytmkpdcikpjpeaaa", sum := "23d6aa3698cc5c03f600ec650b846dfe6f47c4f0002f8ae3e6d5b3dc390d988a", func := "loop.example/connectionpool/laws.FnExactEndedConns", spec := "fnExactEndedConns", unfollowed := true, recurses := true, apart := false, narrowed := true }
def FnExactEndedConnsUptoSaid : Prop := fnExactEndedConnsUptoRow.holds Try.pinned (OpenSpec.upto fnExactEndedConnsSpec)

end Rows
end Go.Proofs.Ytmkpdcikpjpeaaa
