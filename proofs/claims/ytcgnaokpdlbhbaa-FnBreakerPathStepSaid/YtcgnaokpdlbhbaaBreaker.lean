/- Breakers: the plain functions, and the walks of valid, lets, begin, end of program and reference. -/
import Derived.Test.YtcgnaokpdlbhbaaPure
import Derived.Test.YtcgnaokpdlbhbaaSlice
namespace Go.Proofs.Ytcgnaokpdlbhbaa
open Go.ChangeShapes Go.WideShapes Go.ChangeAt Go.RowKit
set_option linter.unusedVariables false

structure Bk where
  limit : Int
  rest : Int
  state : Int
  fails : Int
  since : Int
deriving Inhabited

def vB (b : Bk) : Bool := inB 1 8 b.limit && inB 1 1000 b.rest && inB 0 2 b.state && inB 0 (b.limit - 1) b.fails && (b.fails == 0 || b.state == 0) && inB 0 1000 b.since
def letsB (b : Bk) (now : Int) : Bool := b.state == 0 || (b.state == 1 && decide (b.rest ≤ now - b.since))
def timedB (b : Bk) (now : Int) : Bool := vB b && inB b.since 1000 now
def callB (b : Bk) (now : Int) : Bool := timedB b now && letsB b now
def turnB (b : Bk) (state now : Int) : Bk := ⟨b.limit, b.rest, state, 0, now⟩
def beginB (b : Bk) (now : Int) : Bk := if b.state = 1 then turnB b 2 now else b
def endB (b : Bk) (good : Bool) (now : Int) : Bk :=
  if b.state = 1 then b
  else if b.state = 2 then (if good then turnB b 0 now else turnB b 1 now)
  else if good then { b with fails := 0 }
  else if b.fails + 1 = b.limit then turnB b 1 now
  else { b with fails := b.fails + 1 }

theorem vB_facts {b : Bk} (h : vB b = true) : 1 ≤ b.limit ∧ b.limit ≤ 8 ∧ 1 ≤ b.rest ∧ b.rest ≤ 1000 ∧ 0 ≤ b.state ∧ b.state ≤ 2 ∧ 0 ≤ b.fails ∧ b.fails < b.limit ∧ (b.fails = 0 ∨ b.state = 0) ∧ 0 ≤ b.since ∧ b.since ≤ 1000 := by
  simp only [vB, inB, Bool.and_eq_true, Bool.or_eq_true, decide_eq_true_eq, beq_iff_eq] at h
  omega
theorem vB_mk {b : Bk} (h : 1 ≤ b.limit ∧ b.limit ≤ 8 ∧ 1 ≤ b.rest ∧ b.rest ≤ 1000 ∧ 0 ≤ b.state ∧ b.state ≤ 2 ∧ 0 ≤ b.fails ∧ b.fails < b.limit ∧ (b.fails = 0 ∨ b.state = 0) ∧ 0 ≤ b.since ∧ b.since ≤ 1000) : vB b = true := by
  simp only [vB, inB, Bool.and_eq_true, Bool.or_eq_true, decide_eq_true_eq, beq_iff_eq]
  omega

theorem isSpan_calls (n : Int) (w : World) : Calls Try.prog 46 #[.int .i64 n] w fun e w' => e = .returned (.bool (inB 1 1000 n)) ∧ w = w' := by
  go_enter Try.func46, Try.ntmps46
  go_wp2_with (go_at_call 45; refine (in_calls _ _ _ _).mono ?_; rintro e w' ⟨rfl, rfl⟩)
  go_ret
  exact ⟨rfl, rfl⟩
theorem isTime_calls (n : Int) (w : World) : Calls Try.prog 47 #[.int .i64 n] w fun e w' => e = .returned (.bool (inB 0 1000 n)) ∧ w = w' := by
  go_enter Try.func47, Try.ntmps47
  go_wp2_with (go_at_call 45; refine (in_calls _ _ _ _).mono ?_; rintro e w' ⟨rfl, rfl⟩)
  go_ret
  exact ⟨rfl, rfl⟩

theorem implValidBreaker_calls (b : Bk) (w : World) : Calls Try.prog 21 #[.agg #[.int .i64 b.limit, .int .i64 b.rest, .int .i64 b.state, .int .i64 b.fails, .int .i64 b.since]] w fun e w' => e = .returned (.bool (vB b)) ∧ Below w.heap.size w w' := by
  have l1 : inB 1 8 b.limit = true → 1 ≤ b.limit ∧ b.limit ≤ 8 := inB_yes
  rcases chain5 (inB 1 8 b.limit) (inB 1 1000 b.rest) (inB 0 2 b.state) (inB 0 (b.limit - 1) b.fails) (b.fails == 0 || b.state == 0) with h1 | ⟨h1, h2⟩ | ⟨h1, h2, h3⟩ | ⟨h1, h2, h3, h4⟩ | ⟨h1, h2, h3, h4, h5⟩ | ⟨h1, h2, h3, h4, h5⟩
  case inr.inr.inr.inr.inr =>
    have := l1 h1
    clear l1
    cases h7 : inB 0 1000 b.since <;> cases h6 : b.fails == 0
    all_goals
      have h8 : (b.fails == 0) = false → (b.state == 0) = true := by intro hx; simpa [hx] using h5
      have e : vB b = inB 0 1000 b.since := by simp [vB, h1, h2, h3, h4, h5]
      rw [h7] at e
      rw [e]
      try have h9 := h8 h6
      clear h5 h8 e
      go_enter Try.func21, Try.ntmps21
      go_wp2_with (first | (go_at_call 45; refine (in_calls _ _ _ _).mono ?_; rintro e w' ⟨rfl, rfl⟩) | (go_at_call 46; refine (isSpan_calls _ _).mono ?_; rintro e w' ⟨rfl, rfl⟩) | (go_at_call 47; refine (isTime_calls _ _).mono ?_; rintro e w' ⟨rfl, rfl⟩))
      go_ret
      exact ⟨rfl, (Below.refl _ _).alloc (Nat.le_refl _) _⟩
  case inr.inr.inr.inr.inl =>
    have := l1 h1
    clear l1
    have h6 : (b.fails == 0) = false ∧ (b.state == 0) = false := by simpa using h5
    have e : vB b = false := by simp [vB, h5]
    obtain ⟨h6, h9⟩ := h6
    rw [e]
    clear h5 e
    go_enter Try.func21, Try.ntmps21
    go_wp2_with (first | (go_at_call 45; refine (in_calls _ _ _ _).mono ?_; rintro e w' ⟨rfl, rfl⟩) | (go_at_call 46; refine (isSpan_calls _ _).mono ?_; rintro e w' ⟨rfl, rfl⟩) | (go_at_call 47; refine (isTime_calls _ _).mono ?_; rintro e w' ⟨rfl, rfl⟩))
    go_ret
    exact ⟨rfl, (Below.refl _ _).alloc (Nat.le_refl _) _⟩
  all_goals
    have l2 := l1
    first | have l2 := l1 h1 | skip
    clear l1
    have e : vB b = false := by simp [vB, *]
    rw [e]
    clear e
    go_enter Try.func21, Try.ntmps21
    go_wp2_with (first | (go_at_call 45; refine (in_calls _ _ _ _).mono ?_; rintro e w' ⟨rfl, rfl⟩) | (go_at_call 46; refine (isSpan_calls _ _).mono ?_; rintro e w' ⟨rfl, rfl⟩) | (go_at_call 47; refine (isTime_calls _ _).mono ?_; rintro e w' ⟨rfl, rfl⟩))
    go_ret
    exact ⟨rfl, (Below.refl _ _).alloc (Nat.le_refl _) _⟩

theorem specvalidBreaker_calls (b : Bk) (w : World) : Calls Try.prog 44 #[.agg #[.int .i64 b.limit, .int .i64 b.rest, .int .i64 b.state, .int .i64 b.fails, .int .i64 b.since]] w fun e w' => e = .returned (.bool (vB b)) ∧ Below w.heap.size w w' := by
  have l1 : inB 1 8 b.limit = true → 1 ≤ b.limit ∧ b.limit ≤ 8 := inB_yes
  rcases chain5 (inB 1 8 b.limit) (inB 1 1000 b.rest) (inB 0 2 b.state) (inB 0 (b.limit - 1) b.fails) (inB 0 1000 b.since) with h1 | ⟨h1, h2⟩ | ⟨h1, h2, h3⟩ | ⟨h1, h2, h3, h4⟩ | ⟨h1, h2, h3, h4, h5⟩ | ⟨h1, h2, h3, h4, h5⟩
  case inr.inr.inr.inr.inr =>
    have := l1 h1
    clear l1
    cases h7 : b.state == 0 <;> cases h6 : b.fails == 0
    all_goals
      have e : vB b = (b.fails == 0 || b.state == 0) := by simp [vB, h1, h2, h3, h4, h5]
      rw [h6, h7] at e
      rw [e]
      clear e
      go_enter Try.func44, Try.ntmps44
      go_wp2_with (go_at_call 48; refine (inRange_calls _ _ _ _).mono ?_; rintro e w' ⟨rfl, rfl⟩)
      go_ret
      exact ⟨rfl, (Below.refl _ _).alloc (Nat.le_refl _) _⟩
  all_goals
    have l2 := l1
    first | have l2 := l1 h1 | skip
    clear l1
    have e : vB b = false := by simp [vB, *]
    rw [e]
    clear e
    go_enter Try.func44, Try.ntmps44
    go_wp2_with (go_at_call 48; refine (inRange_calls _ _ _ _).mono ?_; rintro e w' ⟨rfl, rfl⟩)
    go_ret
    exact ⟨rfl, (Below.refl _ _).alloc (Nat.le_refl _) _⟩

theorem specValidBreaker_calls (b : Bk) (w : World) : Calls Try.prog 19 #[.agg #[.int .i64 b.limit, .int .i64 b.rest, .int .i64 b.state, .int .i64 b.fails, .int .i64 b.since]] w fun e w' => e = .returned (.bool (vB b)) ∧ Below w.heap.size w w' := by
  go_enter Try.func19, Try.ntmps19
  go_wp2_with fail
  refine (specvalidBreaker_calls b _).mono ?_
  rintro e w1 ⟨rfl, hb⟩
  go_wp2
  go_ret
  exact ⟨rfl, ((Below.refl _ _).alloc (Nat.le_refl _) _).trans (hb.mono (by simp))⟩

theorem timed_calls (b : Bk) (now : Int) (w : World) : Calls Try.prog 50 #[.agg #[.int .i64 b.limit, .int .i64 b.rest, .int .i64 b.state, .int .i64 b.fails, .int .i64 b.since], .int .i64 now] w fun e w' => e = .returned (.bool (timedB b now)) ∧ Below w.heap.size w w' := by
  unfold timedB
  cases h1 : vB b <;> cases h2 : inB b.since 1000 now
  all_goals
    go_enter Try.func50, Try.ntmps50
    go_wp2_with fail
    refine (implValidBreaker_calls b _).mono ?_
    rintro e w1 ⟨rfl, hb⟩
    obtain ⟨hc, hf⟩ := bcell hb
    go_wp2_with (go_at_call 45; refine (in_calls _ _ _ _).mono ?_; rintro e w' ⟨rfl, rfl⟩)
    go_ret
    exact ⟨rfl, ((Below.refl _ _).alloc (Nat.le_refl _) _).trans (hb.mono (by simp))⟩

theorem implLets_calls (b : Bk) (now : Int) (w : World) (h : -4611686018427387904 ≤ now - b.since ∧ now - b.since ≤ 4611686018427387904) :
    Calls Try.prog 51 #[.agg #[.int .i64 b.limit, .int .i64 b.rest, .int .i64 b.state, .int .i64 b.fails, .int .i64 b.since], .int .i64 now] w fun e w' => e = .returned (.bool (letsB b now)) ∧ Below w.heap.size w w' := by
  unfold letsB
  cases h1 : b.state == 0 <;> cases h2 : b.state == 1 <;> cases h3 : decide (b.rest ≤ now - b.since)
  all_goals
    go_enter Try.func51, Try.ntmps51
    go_wp2
    go_ret
    exact ⟨rfl, (Below.refl _ _).alloc (Nat.le_refl _) _⟩
theorem specLets_calls (b : Bk) (now : Int) (w : World) (h : -4611686018427387904 ≤ now - b.since ∧ now - b.since ≤ 4611686018427387904) :
    Calls Try.prog 49 #[.agg #[.int .i64 b.limit, .int .i64 b.rest, .int .i64 b.state, .int .i64 b.fails, .int .i64 b.since], .int .i64 now] w fun e w' => e = .returned (.bool (letsB b now)) ∧ Below w.heap.size w w' := by
  unfold letsB
  cases h1 : b.state == 0 <;> cases h2 : b.state == 1 <;> cases h3 : decide (b.rest ≤ now - b.since)
  all_goals
    go_enter Try.func49, Try.ntmps49
    go_wp2
    go_ret
    exact ⟨rfl, (Below.refl _ _).alloc (Nat.le_refl _) _⟩
end Go.Proofs.Ytcgnaokpdlbhbaa
