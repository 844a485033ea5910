/- The laws on SizeFor as plain facts, and the walks of the three laws. -/
import Derived.Test.YtacdgddamphgnaaSize
import Derived.Test.YtacdgddamphgnaaFrame
import Derived.Test.YtacdgddamphgnaaDrawSize
namespace Go.Proofs.Ytacdgddamphgnaa
open Go.ChangeShapes Go.WideShapes Go.ChangeAt Go.RowKit
set_option linter.unusedVariables false

theorem fnExactSizeFor_walk (a b : Int) (w : World) (ha : -9223372036854775808 ≤ a ∧ a ≤ 9223372036854775807) (hb : -9223372036854775808 ≤ b ∧ b ≤ 9223372036854775807) :
    Calls Try.prog 3 #[.int .i64 a, .int .i64 b] w (SaysTrue w) := by
  go_enter Try.func3, Try.ntmps3
  go_wp2_with (first | (go_at_call 9; refine (specSizeFor_calls _ _ _).mono ?_; rintro e w' ⟨rfl, rfl⟩) | (go_at_call 10; refine (implSizeFor_calls _ _ _).mono ?_; rintro e w' ⟨rfl, rfl⟩))
  go_ret
  exact ⟨rfl, Below.refl _ _⟩

/-- sizeFor at valid numbers. -/
theorem sizeFor_cases (m s : Int) : (sizeFor m s = -1 ∧ (inB 0 600 m = false ∨ inB 0 6 s = false ∨ 6 < (m + 99) / 100 + s)) ∨ (sizeFor m s = max 1 ((m + 99) / 100 + s) ∧ 0 ≤ m ∧ m ≤ 600 ∧ 0 ≤ s ∧ s ≤ 6 ∧ (m + 99) / 100 + s ≤ 6) := by
  cases h1 : inB 0 600 m
  · left; simp [sizeFor, h1]
  · cases h2 : inB 0 6 s
    · left; simp [sizeFor, h1, h2]
    · have := inB_yes h1
      have := inB_yes h2
      by_cases h : 6 < (m + 99) / 100 + s
      · left; refine ⟨?_, .inr (.inr h)⟩; simp [sizeFor, h1, h2]; omega
      · right; refine ⟨?_, by omega, by omega, by omega, by omega, by omega⟩; simp [sizeFor, h1, h2]; omega

theorem fnSizeFor_walk (ao : Option Addr) (n cap : Nat) (c : Nat → Int) (w : World) (h : Code8 w ao n cap c) :
    Calls Try.prog 4 #[.slice ao n cap] w (SaysTrue w) := by
  have hcap : n ≤ 9223372036854775807 := by have := h.1; have := h.2.1; unfold maxLen at this; omega
  by_cases hn : 1048576 < n
  · go_enter Try.func4, Try.ntmps4
    go_wp2
    go_ret
    exact ⟨rfl, Below.refl _ _⟩
  · go_enter Try.func4, Try.ntmps4
    go_wp2_with fail
    refine (drawSizeFor_calls ao n cap c w h).mono ?_
    rintro e w1 ⟨m, s, rfl, hm, hs, B1⟩
    obtain ⟨v, hv⟩ : ∃ v, sizeFor m s = v := ⟨_, rfl⟩
    have I : ∀ w, Calls Try.prog 10 #[.int .i64 m, .int .i64 s] w fun e w' => e = .returned (.int .i64 v) ∧ w = w' := by rw [← hv]; exact implSizeFor_calls m s
    have S : ∀ w, Calls Try.prog 9 #[.int .i64 m, .int .i64 s] w fun e w' => e = .returned (.int .i64 v) ∧ w = w' := by rw [← hv]; exact specSizeFor_calls m s
    have I := Lib.hid I
    have S := Lib.hid S
    rcases sizeFor_cases m s with ⟨h1, _⟩ | ⟨h1, h2, h3, h4, h5, h6⟩
    · have hv' : v = -1 := by omega
      clear hv h1
      subst hv'
      go_wp2_with (first | (go_at_call 9; refine (S.out _).mono ?_; rintro e w' ⟨rfl, rfl⟩) | (go_at_call 10; refine (I.out _).mono ?_; rintro e w' ⟨rfl, rfl⟩))
      go_ret
      exact ⟨rfl, B1⟩
    · have HV := Lib.hid (hv.symm.trans h1)
      clear h1 hv
      have g1 : 1 ≤ v := by have := HV.out; omega
      have g2 : v ≤ 6 := by have := HV.out; omega
      have g3 : m ≤ 100 * (v - s) := by have := HV.out; omega
      by_cases g4 : v = 1
      · subst g4
        go_wp2_with (first | (go_at_call 9; refine (S.out _).mono ?_; rintro e w' ⟨rfl, rfl⟩) | (go_at_call 10; refine (I.out _).mono ?_; rintro e w' ⟨rfl, rfl⟩))
        go_ret
        exact ⟨rfl, B1⟩
      · have g5 : 100 * (v - 1 - s) < m := by have := HV.out; omega
        go_wp2_with (first | (go_at_call 9; refine (S.out _).mono ?_; rintro e w' ⟨rfl, rfl⟩) | (go_at_call 10; refine (I.out _).mono ?_; rintro e w' ⟨rfl, rfl⟩))
        go_ret
        exact ⟨rfl, B1⟩

theorem fnSizeForMore_walk (ao : Option Addr) (n cap : Nat) (c : Nat → Int) (w : World) (h : Code8 w ao n cap c) :
    Calls Try.prog 5 #[.slice ao n cap] w (SaysTrue w) := by
  have hcap : n ≤ 9223372036854775807 := by have := h.1; have := h.2.1; unfold maxLen at this; omega
  by_cases hn : 1048576 < n
  · go_enter Try.func5, Try.ntmps5
    go_wp2
    go_ret
    exact ⟨rfl, Below.refl _ _⟩
  · go_enter Try.func5, Try.ntmps5
    go_wp2_with fail
    refine (drawSizeFor_calls ao n cap c w h).mono ?_
    rintro e w1 ⟨m, s, rfl, hm, hs, B1⟩
    go_wp2_with fail
    refine (implSizeFor_calls _ _ _).mono ?_
    rintro e w' ⟨rfl, rfl⟩
    rcases sizeFor_cases m s with ⟨h1, _⟩ | ⟨h1, h2, h3, h4, h5, h6⟩
    · have S : ∀ w, Calls Try.prog 9 #[.int .i64 m, .int .i64 s] w fun e w' => e = .returned (.int .i64 (-1)) ∧ w = w' := by rw [← h1]; exact specSizeFor_calls m s
      rw [h1]
      clear h1
      have S := Lib.hid S
      go_wp2_with (go_at_call 9; refine (S.out _).mono ?_; rintro e w' ⟨rfl, rfl⟩)
      go_ret
      exact ⟨rfl, B1⟩
    · generalize hv : sizeFor m s = v at h1
      have S : ∀ w, Calls Try.prog 9 #[.int .i64 m, .int .i64 s] w fun e w' => e = .returned (.int .i64 v) ∧ w = w' := by rw [← hv]; exact specSizeFor_calls m s
      have S := Lib.hid S
      clear hv
      have g1 : 1 ≤ v := by omega
      have g2 : v ≤ 6 := by omega
      have HV := Lib.hid h1
      clear h1
      go_wp2_with fail
      refine (S.out _).mono ?_
      rintro e w' ⟨rfl, rfl⟩
      go_wp2_with fail
      refine (implSizeFor_calls _ _ _).mono ?_
      rintro e w' ⟨rfl, rfl⟩
      have k1 : sizeFor (m + 1) s = -1 ∨ v ≤ sizeFor (m + 1) s := by
        have := HV.out
        rcases sizeFor_cases (m + 1) s with ⟨a, _⟩ | ⟨a, _⟩ <;> omega
      generalize sizeFor (m + 1) s = k at k1 ⊢
      go_wp2_with fail
      refine (implSizeFor_calls _ _ _).mono ?_
      rintro e w' ⟨rfl, rfl⟩
      have k2 : sizeFor m (s + 1) = -1 ∨ sizeFor m (s + 1) = v + 1 ∨ (m = 0 ∧ s = 0 ∧ sizeFor m (s + 1) = 1) := by
        have := HV.out
        rcases sizeFor_cases m (s + 1) with ⟨a, _⟩ | ⟨a, _⟩ <;> omega
      generalize sizeFor m (s + 1) = l at k2 ⊢
      clear HV S
      by_cases hk : k = -1
      · subst hk
        rcases k2 with rfl | rfl | ⟨rfl, rfl, rfl⟩
        · go_wp2; go_ret; exact ⟨rfl, B1⟩
        · go_wp2; go_ret; exact ⟨rfl, B1⟩
        · go_wp2; go_ret; exact ⟨rfl, B1⟩
      · have hk' : v ≤ k := by omega
        rcases k2 with rfl | rfl | ⟨rfl, rfl, rfl⟩
        · go_wp2; go_ret; exact ⟨rfl, B1⟩
        · go_wp2; go_ret; exact ⟨rfl, B1⟩
        · go_wp2; go_ret; exact ⟨rfl, B1⟩
end Go.Proofs.Ytacdgddamphgnaa
