/- An argument that is a list of integers, as the walks read it. -/
import Derived.Test.YtcgnaokpdlbhbaaPathLaws1
import Derived.Test.YtcgnaokpdlbhbaaOpenB
import Derived.Test.YtcgnaokpdlbhbaaBreakerLaws1
namespace Go.Proofs.Ytcgnaokpdlbhbaa
open Go.ChangeShapes Go.WideShapes Go.ChangeAt Go.RowKit Go.Deep
set_option linter.unusedVariables false
section
variable {H : Type} {enc : TypeId × Value → H} {w : World} {base : Nat} {spare : Nat → Bool} {held : Bool}
theorem open_ints8 {ao : Option Addr} {len cap : Nat} {d : DataW H} {p : List MemPlace} (h : DataW.Trod enc Try.prog w base spare held 43 (.slice ao len cap) d p) : ∃ L : Nat → Int, RdI w ao len cap L :=
  open_rd1 (Value.int .i64) Try.underlying43 (by kernel_rfl) (fun fuel v x hx => by
    obtain ⟨b, hb, _⟩ := DataW.trod_int Try.underlying3 hx
    exact ⟨b, by simpa using hb⟩) h
end
end Go.Proofs.Ytcgnaokpdlbhbaa
