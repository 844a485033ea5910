/- Lists of integers, as the walks read them. -/
import Derived.Test.YtcgnaokpdlbhbaaSlice
namespace Go.Proofs.Ytcgnaokpdlbhbaa
open Go.ChangeShapes Go.WideShapes Go.ChangeAt Go.RowKit
set_option linter.unusedVariables false

theorem infoInt : (Try.prog.info? 3).map (fun i => (i.zero, i.size, i.bytes)) = some (some (.int .i64 0), 1, 8) := by kernel_rfl

/-- A slice of integers. -/
def RdI (w : World) (ao : Option Addr) (n cap : Nat) (L : Nat → Int) : Prop := Rd w 1 ao n cap (fun i _ => .int .i64 (L i))
theorem RdI.below {w w' : World} {ao : Option Addr} {n cap : Nat} {L : Nat → Int} (h : RdI w ao n cap L) (hb : Below w.heap.size w w') : RdI w' ao n cap L := Rd.below h hb
theorem RdI.len {w : World} {ao : Option Addr} {n cap : Nat} {L : Nat → Int} (h : RdI w ao n cap L) : n ≤ 9223372036854775807 := Rd.len h
theorem RdI.pos {w : World} {ao : Option Addr} {n cap : Nat} {L : Nat → Int} (h : RdI w ao n cap L) (hn : 0 < n) : ∃ b off, ao = some ⟨b, off, none⟩ ∧ b < w.heap.size ∧ ∀ i, i < n → w.cell? ⟨b, off + i, none⟩ = some (.int .i64 (L i)) := by
  obtain ⟨b, off, h1, h2, h3⟩ := Rd.pos h hn
  exact ⟨b, off, h1, h2, fun i hi => by simpa using h3 i hi 0 (by omega)⟩
theorem RdI_of_own {w : World} {base : Nat} {e : TypeId} {v : Value} {L : List Int} (h : w.ownsRow base e 1 v L.length (L.map (Value.int .i64))) :
    ∃ ao cap, v = .slice ao L.length cap ∧ RdI w ao L.length cap (fun i => L.getD i 0) ∧ ∀ b off x, ao = some ⟨b, off, x⟩ → base ≤ b := by
  have h' : w.ownsRow base e 1 v L.length (L.flatMap fun b => [Value.int .i64 b]) := by
    have : (L.flatMap fun b => [Value.int .i64 b]) = L.map (Value.int .i64) := by rw [List.map_eq_flatMap]
    rw [this]; exact h
  obtain ⟨ao, cap, h1, h2, h3⟩ := Rd_of_own (fun b => [Value.int .i64 b]) (fun _ => rfl) 0 h'
  exact ⟨ao, cap, h1, h2.congr (fun i _ j hj => by have hj1 : j < 1 := hj; (obtain rfl : j = 0 := by omega); rfl), h3⟩

def Ints (w : World) (n : Nat) (L : Nat → Int) (e : Ending) (w' : World) : Prop :=
  ∃ v, e = .returned v ∧ ∃ ao cap, v = .slice ao n cap ∧ RdI w' ao n cap L ∧ (∀ b off x, ao = some ⟨b, off, x⟩ → w.heap.size ≤ b) ∧ Below w.heap.size w w'
end Go.Proofs.Ytcgnaokpdlbhbaa
