/- The tests 'in', 'inRange' of program and reference, and SizeFor of both: each computes a plain Lean function. -/
import Derived.Test.YtcgnaokpdlbhbaaRows
import Derived.Handy
import Derived.Lib.Hide
namespace Go.Proofs.Ytcgnaokpdlbhbaa
open Go.ChangeShapes Go.WideShapes Go.ChangeAt Go.RowKit
set_option linter.unusedVariables false

theorem ret_bool {a b : Bool} (h : a = b) : Ending.returned (.bool a) = .returned (.bool b) := by rw [h]
theorem ret_int {k : IntKind} {a b : Int} (h : a = b) : Ending.returned (.int k a) = .returned (.int k b) := by rw [h]

def inB (lo hi n : Int) : Bool := decide (lo ≤ n) && decide (n ≤ hi)
theorem inB_yes {lo hi n : Int} (h : inB lo hi n = true) : lo ≤ n ∧ n ≤ hi := by simpa [inB] using h
theorem inB_no {lo hi n : Int} (h : inB lo hi n = false) : n < lo ∨ hi < n := by
  by_cases a : lo ≤ n
  · by_cases b : n ≤ hi
    · simp [inB, a, b] at h
    · omega
  · omega
theorem inB_mk {lo hi n : Int} (h : lo ≤ n ∧ n ≤ hi) : inB lo hi n = true := by simp [inB, h]

theorem byB (x : Bool) : x = false ∨ x = true := by cases x <;> simp
theorem chain2 (a b : Bool) : a = false ∨ (a = true ∧ b = false) ∨ (a = true ∧ b = true) := by cases a <;> cases b <;> simp
theorem chain3 (a b c : Bool) : a = false ∨ (a = true ∧ b = false) ∨ (a = true ∧ b = true ∧ c = false) ∨ (a = true ∧ b = true ∧ c = true) := by cases a <;> cases b <;> cases c <;> simp
theorem chain4 (a b c d : Bool) : a = false ∨ (a = true ∧ b = false) ∨ (a = true ∧ b = true ∧ c = false) ∨ (a = true ∧ b = true ∧ c = true ∧ d = false) ∨ (a = true ∧ b = true ∧ c = true ∧ d = true) := by cases a <;> cases b <;> cases c <;> cases d <;> simp
theorem chain5 (a b c d f : Bool) : a = false ∨ (a = true ∧ b = false) ∨ (a = true ∧ b = true ∧ c = false) ∨ (a = true ∧ b = true ∧ c = true ∧ d = false) ∨ (a = true ∧ b = true ∧ c = true ∧ d = true ∧ f = false) ∨ (a = true ∧ b = true ∧ c = true ∧ d = true ∧ f = true) := by cases a <;> cases b <;> cases c <;> cases d <;> cases f <;> simp

theorem in_calls (n lo hi : Int) (w : World) :
    Calls Try.prog 45 #[.int .i64 n, .int .i64 lo, .int .i64 hi] w fun e w' => e = .returned (.bool (inB lo hi n)) ∧ w = w' := by
  by_cases h1 : lo ≤ n <;> by_cases h2 : n ≤ hi
  all_goals
    go_enter Try.func45, Try.ntmps45
    go_wp2
    go_ret
    exact ⟨ret_bool (by simp [inB]; omega), rfl⟩
theorem inRange_calls (n lo hi : Int) (w : World) :
    Calls Try.prog 48 #[.int .i64 n, .int .i64 lo, .int .i64 hi] w fun e w' => e = .returned (.bool (inB lo hi n)) ∧ w = w' := by
  by_cases h1 : lo ≤ n <;> by_cases h2 : n ≤ hi
  all_goals
    go_enter Try.func48, Try.ntmps48
    go_wp2
    go_ret
    exact ⟨ret_bool (by simp [inB]; omega), rfl⟩
end Go.Proofs.Ytcgnaokpdlbhbaa
