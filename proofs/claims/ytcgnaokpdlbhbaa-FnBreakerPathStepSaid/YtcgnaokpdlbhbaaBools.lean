/- Lists of bools: the copy, the comparison, the drawn list of checks. -/
import Derived.Test.YtcgnaokpdlbhbaaSlice
namespace Go.Proofs.Ytcgnaokpdlbhbaa
open Go.ChangeShapes Go.WideShapes Go.ChangeAt Go.RowKit
set_option linter.unusedVariables false

theorem infoBool : (Try.prog.info? 4).map (fun i => (i.zero, i.size, i.bytes)) = some (some (.bool false), 1, 1) := by kernel_rfl

/-- A slice of bools. -/
def RdB (w : World) (ao : Option Addr) (n cap : Nat) (L : Nat → Bool) : Prop := Rd w 1 ao n cap (fun i _ => .bool (L i))
theorem RdB.below {w w' : World} {ao : Option Addr} {n cap : Nat} {L : Nat → Bool} (h : RdB w ao n cap L) (hb : Below w.heap.size w w') : RdB w' ao n cap L := Rd.below h hb
theorem RdB.len {w : World} {ao : Option Addr} {n cap : Nat} {L : Nat → Bool} (h : RdB w ao n cap L) : n ≤ 9223372036854775807 := Rd.len h
theorem RdB.pos {w : World} {ao : Option Addr} {n cap : Nat} {L : Nat → Bool} (h : RdB w ao n cap L) (hn : 0 < n) : ∃ b off, ao = some ⟨b, off, none⟩ ∧ b < w.heap.size ∧ ∀ i, i < n → w.cell? ⟨b, off + i, none⟩ = some (.bool (L i)) := by
  obtain ⟨b, off, h1, h2, h3⟩ := Rd.pos h hn
  exact ⟨b, off, h1, h2, fun i hi => by simpa using h3 i hi 0 (by omega)⟩
theorem RdB_of_own {w : World} {base : Nat} {e : TypeId} {v : Value} {L : List Bool} (h : w.ownsRow base e 1 v L.length (L.map Value.bool)) :
    ∃ ao cap, v = .slice ao L.length cap ∧ RdB w ao L.length cap (fun i => L.getD i false) ∧ ∀ b off x, ao = some ⟨b, off, x⟩ → base ≤ b := by
  have h' : w.ownsRow base e 1 v L.length (L.flatMap fun b => [Value.bool b]) := by
    have : (L.flatMap fun b => [Value.bool b]) = L.map Value.bool := by rw [List.map_eq_flatMap]
    rw [this]; exact h
  obtain ⟨ao, cap, h1, h2, h3⟩ := Rd_of_own (fun b => [Value.bool b]) (fun _ => rfl) false h'
  exact ⟨ao, cap, h1, h2.congr (fun i _ j hj => by have hj1 : j < 1 := hj; (obtain rfl : j = 0 := by omega); rfl), h3⟩

def Bools (w : World) (n : Nat) (L : Nat → Bool) (e : Ending) (w' : World) : Prop :=
  ∃ v, e = .returned v ∧ ∃ ao cap, v = .slice ao n cap ∧ RdB w' ao n cap L ∧ (∀ b off x, ao = some ⟨b, off, x⟩ → w.heap.size ≤ b) ∧ Below w.heap.size w w'
end Go.Proofs.Ytcgnaokpdlbhbaa
