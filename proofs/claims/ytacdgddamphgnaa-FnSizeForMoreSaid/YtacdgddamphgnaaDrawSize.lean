/- DrawSizeFor: two numbers within bounds; nothing that was there turns. -/
import Derived.Test.YtacdgddamphgnaaReader
namespace Go.Proofs.Ytacdgddamphgnaa
open Go.ChangeShapes Go.WideShapes Go.ChangeAt Go.RowKit
set_option linter.unusedVariables false

def TwoInts (w : World) (P Q : Int → Prop) (e : Ending) (w' : World) : Prop :=
  ∃ a b : Int, e = .returned (.tuple #[.int .i64 a, .int .i64 b]) ∧ P a ∧ Q b ∧ Below w.heap.size w w'

theorem drawSizeFor_calls (ao : Option Addr) (n cap : Nat) (c : Nat → Int) (w : World) (h : Code8 w ao n cap c) :
    Calls Try.prog 11 #[.slice ao n cap] w (TwoInts w (fun a => -10 ≤ a ∧ a ≤ 1000) (fun b => -10 ≤ b ∧ b ≤ 1000)) := by
  go_enter Try.func11, Try.ntmps11
  go_wp2_with fail
  refine (newReader1 ao n cap c w h).mono ?_
  rintro e w1 ⟨r, sl, rfl, R1, B1⟩
  go_wp2_with fail
  refine (pick1 _ R1 (by omega)).mono ?_
  rintro e w2 ⟨x, rfl, hx0, hx1, R2, G2⟩
  have hx := hx1 (by omega)
  clear hx1
  have B2 := below_pick B1 B1.size R1 (Nat.le_refl _) G2
  go_wp2_with fail
  refine (one1 [0, 1, 100, 150, 250, 600, 601, -1, 2 * x] rfl (R2.alloc _) (by omega) (lit_heap w2 [0, 1, 100, 150, 250, 600, 601, -1, 2 * x] _) (by simp) (by simp)).mono ?_
  rintro e w3 ⟨u, hu, rfl, R3, G3⟩
  have B3 := below_pick (B2.alloc B2.size _) (by have := B2.size; simp; omega) (R2.alloc _) (Nat.le_refl _) G3
  have hub : -10 ≤ u ∧ u ≤ 1000 := by simp at hu; omega
  clear hu
  go_wp2_with fail
  refine (one1 [0, 1, 2, 6, 7, -1] rfl (R3.alloc _) (by omega) (lit_heap w3 [0, 1, 2, 6, 7, -1] _) (by simp) (by simp)).mono ?_
  rintro e w4 ⟨v, hv, rfl, R4, G4⟩
  have B4 := below_pick (B3.alloc B3.size _) (by have := B3.size; simp; omega) (R3.alloc _) (Nat.le_refl _) G4
  have hvb : -10 ≤ v ∧ v ≤ 1000 := by simp at hv; omega
  clear hv
  go_wp2
  go_ret2
  exact ⟨u, v, rfl, hub, hvb, B4⟩
end Go.Proofs.Ytacdgddamphgnaa
