/- SizeFor of program and reference: each computes the plain function sizeFor. -/
import Derived.Test.YtacdgddamphgnaaPure
namespace Go.Proofs.Ytacdgddamphgnaa
open Go.ChangeShapes Go.WideShapes Go.ChangeAt Go.RowKit
set_option linter.unusedVariables false

def sizeFor (mean spare : Int) : Int :=
  if inB 0 600 mean && inB 0 6 spare then (if 6 < max 1 ((mean + 99) / 100 + spare) then -1 else max 1 ((mean + 99) / 100 + spare)) else -1

theorem implSizeFor_calls (mean spare : Int) (w : World) :
    Calls Try.prog 10 #[.int .i64 mean, .int .i64 spare] w fun e w' => e = .returned (.int .i64 (sizeFor mean spare)) ∧ w = w' := by
  cases h1 : inB 0 600 mean <;> cases h2 : inB 0 6 spare
  case true.true =>
    have b1 := inB_yes h1
    have b2 := inB_yes h2
    go_enter Try.func10, Try.ntmps10
    go_wp2_with (go_at_call 18; refine (in_calls _ _ _ _).mono ?_; rintro e w' ⟨rfl, rfl⟩)
    all_goals (go_ret; exact ⟨ret_int (by simp [sizeFor, h1, h2]; omega), rfl⟩)
  all_goals
    go_enter Try.func10, Try.ntmps10
    go_wp2_with (go_at_call 18; refine (in_calls _ _ _ _).mono ?_; rintro e w' ⟨rfl, rfl⟩)
    all_goals (go_ret; exact ⟨ret_int (by simp [sizeFor, h1, h2]), rfl⟩)
theorem specSizeFor_calls (mean spare : Int) (w : World) :
    Calls Try.prog 9 #[.int .i64 mean, .int .i64 spare] w fun e w' => e = .returned (.int .i64 (sizeFor mean spare)) ∧ w = w' := by
  cases h1 : inB 0 600 mean <;> cases h2 : inB 0 6 spare
  case true.true =>
    have b1 := inB_yes h1
    have b2 := inB_yes h2
    go_enter Try.func9, Try.ntmps9
    go_wp2_with (go_at_call 17; refine (inRange_calls _ _ _ _).mono ?_; rintro e w' ⟨rfl, rfl⟩)
    all_goals (go_ret; exact ⟨ret_int (by simp [sizeFor, h1, h2]; omega), rfl⟩)
  all_goals
    go_enter Try.func9, Try.ntmps9
    go_wp2_with (go_at_call 17; refine (inRange_calls _ _ _ _).mono ?_; rintro e w' ⟨rfl, rfl⟩)
    all_goals (go_ret; exact ⟨ret_int (by simp [sizeFor, h1, h2]), rfl⟩)
end Go.Proofs.Ytacdgddamphgnaa
