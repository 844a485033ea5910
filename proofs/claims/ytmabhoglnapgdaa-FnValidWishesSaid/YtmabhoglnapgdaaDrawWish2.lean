/- DrawValidWishes, DrawServeTimes, DrawCountServed, DrawLongestWait, DrawConnsFor: some wishes, a number. -/
import Derived.Test.YtmabhoglnapgdaaDrawWish
namespace Go.Proofs.Ytmabhoglnapgdaa
open Go.ChangeShapes Go.WideShapes Go.ChangeAt Go.RowKit
set_option linter.unusedVariables false

def SomeW (w : World) (e : Ending) (w' : World) : Prop := ∃ (L : Nat → Wi) (n : Nat) (ao : Option Addr) (cap : Nat), e = .returned (.slice ao n cap) ∧ n ≤ 13 ∧ RdW w' ao n cap L ∧ Below w.heap.size w w'
def SomeWM (w : World) (e : Ending) (w' : World) : Prop := ∃ (L : Nat → Wi) (n : Nat) (ao : Option Addr) (cap : Nat) (m : Int), e = .returned (.tuple #[.slice ao n cap, .int .i64 m]) ∧ n ≤ 13 ∧ 0 ≤ m ∧ m ≤ 7 ∧ RdW w' ao n cap L ∧ Below w.heap.size w w'

theorem drawValidWishes_calls (ao : Option Addr) (n cap : Nat) (c : Nat → Int) (w : World) (h : Code8 w ao n cap c) : Calls Try.prog 20 #[.slice ao n cap] w (SomeW w) := by
  go_enter Try.func20, Try.ntmps20
  go_wp2_with fail
  refine (newReader1 ao n cap c w h).mono ?_
  rintro e w1 ⟨r, sl, rfl, R1, B1⟩
  go_wp2_with fail
  refine (anyWishes_calls w1 R1 (by omega)).mono ?_
  rintro e w2 ⟨L, m, a2, c2, rfl, hm, RL, F2, R2, G2⟩
  have B2 := below_pick B1 B1.size R1 (Nat.le_refl _) G2
  have F3 := Lib.hid F2
  have F4 := Lib.hid RL
  clear F2 RL
  go_wp2
  go_ret
  exact ⟨L, m, a2, c2, rfl, hm, F4.out, B2⟩

theorem drawConnsFor_calls (ao : Option Addr) (n cap : Nat) (c : Nat → Int) (w : World) (h : Code8 w ao n cap c) : Calls Try.prog 36 #[.slice ao n cap] w (SomeW w) := by
  go_enter Try.func36, Try.ntmps36
  go_wp2_with fail
  refine (newReader1 ao n cap c w h).mono ?_
  rintro e w1 ⟨r, sl, rfl, R1, B1⟩
  go_wp2_with fail
  refine (anyWishes_calls w1 R1 (by omega)).mono ?_
  rintro e w2 ⟨L, m, a2, c2, rfl, hm, RL, F2, R2, G2⟩
  have B2 := below_pick B1 B1.size R1 (Nat.le_refl _) G2
  have F3 := Lib.hid F2
  have F4 := Lib.hid RL
  clear F2 RL
  go_wp2
  go_ret
  exact ⟨L, m, a2, c2, rfl, hm, F4.out, B2⟩

theorem drawServeTimes_calls (ao : Option Addr) (n cap : Nat) (c : Nat → Int) (w : World) (h : Code8 w ao n cap c) : Calls Try.prog 26 #[.slice ao n cap] w (SomeWM w) := by
  go_enter Try.func26, Try.ntmps26
  go_wp2_with fail
  refine (newReader1 ao n cap c w h).mono ?_
  rintro e w1 ⟨r, sl, rfl, R1, B1⟩
  go_wp2_with fail
  refine (anyWishes_calls w1 R1 (by omega)).mono ?_
  rintro e w2 ⟨L, m, a2, c2, rfl, hm, RL, F2, R2, G2⟩
  have B2 := below_pick B1 B1.size R1 (Nat.le_refl _) G2
  have hrl := R1.lt
  go_wp2_with fail
  refine (one1 [1, 2, 3, 6, 0, 7] rfl (R2.alloc _) (by omega) (lit_heap' [1, 2, 3, 6, 0, 7] (by simp)) (by simp) (by simp)).mono ?_
  rintro e w3 ⟨u, hu, rfl, R3, G3⟩
  have hu' : 0 ≤ u ∧ u ≤ 7 := by simp at hu; omega
  have RL3 : RdW w3 a2 m c2 L := Rd.grown (Rd.below RL ((Below.refl _ _).alloc (Nat.le_refl _) (.cells ([1, 2, 3, 6, 0, 7].map (Value.int .i64)).toArray 3))) G3 (fun b off x hx => by have := F2 b off x hx; simp; omega)
  have B3 : Below w.heap.size w w3 := below_pick (B2.alloc B2.size _) (by have := B2.size; simp; omega) (R2.alloc _) (Nat.le_refl _) G3
  have F3 := Lib.hid F2
  have F4 := Lib.hid RL3
  clear F2 RL RL3 hu
  go_wp2
  go_returns
  exact ⟨L, m, a2, c2, u, rfl, hm, hu'.1, hu'.2, F4.out, B3⟩

theorem drawCountServed_calls (ao : Option Addr) (n cap : Nat) (c : Nat → Int) (w : World) (h : Code8 w ao n cap c) : Calls Try.prog 35 #[.slice ao n cap] w (SomeWM w) := by
  go_enter Try.func35, Try.ntmps35
  go_wp2_with fail
  refine (drawServeTimes_calls ao n cap c w h).mono ?_
  rintro e w1 ⟨L, m, a2, c2, u, rfl, hm, hu0, hu1, RL, B1⟩
  have F4 := Lib.hid RL
  clear RL
  go_wp2
  go_returns
  exact ⟨L, m, a2, c2, u, rfl, hm, hu0, hu1, F4.out, B1⟩

theorem drawLongestWait_calls (ao : Option Addr) (n cap : Nat) (c : Nat → Int) (w : World) (h : Code8 w ao n cap c) : Calls Try.prog 30 #[.slice ao n cap] w (SomeWM w) := by
  go_enter Try.func30, Try.ntmps30
  go_wp2_with fail
  refine (drawServeTimes_calls ao n cap c w h).mono ?_
  rintro e w1 ⟨L, m, a2, c2, u, rfl, hm, hu0, hu1, RL, B1⟩
  have F4 := Lib.hid RL
  clear RL
  go_wp2
  go_returns
  exact ⟨L, m, a2, c2, u, rfl, hm, hu0, hu1, F4.out, B1⟩
end Go.Proofs.Ytmabhoglnapgdaa
