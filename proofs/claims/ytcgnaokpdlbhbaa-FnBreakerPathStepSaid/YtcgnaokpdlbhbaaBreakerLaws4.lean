/- The walks of FnEndCall, FnEndCallTry. -/
import Derived.Test.YtcgnaokpdlbhbaaBreakerLaws3
namespace Go.Proofs.Ytcgnaokpdlbhbaa
open Go.ChangeShapes Go.WideShapes Go.ChangeAt Go.RowKit
set_option linter.unusedVariables false

theorem end_facts {b : Bk} {g : Bool} {t : Int} (h : timedB b t = true) : vB (endB b g t) = true ∧ (g = true → (endB b g t).fails = 0 ∧ ((endB b g t).state = 0 ↔ b.state ≠ 1)) ∧ (g = false → (endB b g t).state ≠ 2) := by
  have hf := timed_facts h
  have hv := vB_facts hf.1
  have ht := hf.2.2.2.2
  unfold endB
  by_cases s1 : b.state = 1
  · rw [if_pos s1]
    exact ⟨hf.1, fun _ => by omega, fun _ => by omega⟩
  · rw [if_neg s1]
    by_cases s2 : b.state = 2
    · rw [if_pos s2]
      cases g
      · exact ⟨turn_valid hf.1 ht.1 ht.2 1 (by omega), fun h => by simp at h, fun _ => by simp [turnB]⟩
      · exact ⟨turn_valid hf.1 ht.1 ht.2 0 (by omega), fun _ => by simp [turnB, s2], fun h => by simp at h⟩
    · rw [if_neg s2]
      cases g
      · simp only [Bool.false_eq_true, if_false]
        by_cases l : b.fails + 1 = b.limit
        · rw [if_pos l]
          exact ⟨turn_valid hf.1 ht.1 ht.2 1 (by omega), fun h => by simp at h, fun _ => by simp [turnB]⟩
        · rw [if_neg l]
          exact ⟨vB_mk (by simp; omega), fun h => by simp at h, fun _ => by simp; omega⟩
      · simp only [if_true]
        exact ⟨vB_mk (by simp; omega), fun _ => by simp; omega, fun h => by simp at h⟩

theorem fnEndCall_walk (ao : Option Addr) (n cap : Nat) (c : Nat → Int) (w : World) (h : Code8 w ao n cap c) : Calls Try.prog 11 #[.slice ao n cap] w (SaysTrue w) := by
  have hcap : n ≤ 9223372036854775807 := by have := h.1; have := h.2.1; unfold maxLen at this; omega
  by_cases hn : 1048576 < n
  · go_enter Try.func11, Try.ntmps11
    go_wp2
    go_ret
    exact ⟨rfl, Below.refl _ _⟩
  · go_enter Try.func11, Try.ntmps11
    go_wp2_with fail
    refine (drawEndCall_calls ao n cap c w h).mono ?_
    rintro e w1 ⟨b, g, t, rfl, hb, ht1, ht2, B1⟩
    have z1 := B1.size
    clear hb
    cases hc : timedB b t
    · have he : endCallB b g t = zeroB := by simp [endCallB, hc]
      have I : ∀ w, Calls Try.prog 30 #[.agg #[.int .i64 b.limit, .int .i64 b.rest, .int .i64 b.state, .int .i64 b.fails, .int .i64 b.since], .bool g, .int .i64 t] w (RetBk2 w (zeroB) false) := fun w => by have := implEndCall_calls b g t w; rwa [hc, he] at this
      have S : ∀ w, Calls Try.prog 29 #[.agg #[.int .i64 b.limit, .int .i64 b.rest, .int .i64 b.state, .int .i64 b.fails, .int .i64 b.since], .bool g, .int .i64 t] w (RetBk2 w (zeroB) false) := fun w => by have := specEndCall_calls b g t w; rwa [hc, he] at this
      have I := Lib.hid I
      have S := Lib.hid S
      clear he hc
      go_wp2_with fail
      refine (I.out _).mono ?_
      rintro e w2 ⟨rfl, hb2⟩
      have s2 := hb2.size
      try simp at s2
      have B2 : Below w.heap.size w w2 := Below.trans (by go_grown) (hb2.mono (by first | omega | (simp; done) | (simp; omega)))
      have z2 := B2.size
      obtain ⟨hc2, hf2⟩ := bcell hb2
      have y2_0 : w1.heap.size < w2.heap.size := by omega
      go_wp2_with fail
      refine (S.out _).mono ?_
      rintro e w3 ⟨rfl, hb3⟩
      have s3 := hb3.size
      try simp at s3
      have B3 : Below w.heap.size w w3 := Below.trans (by go_grown) (hb3.mono (by first | omega | (simp; done) | (simp; omega)))
      have z3 := B3.size
      obtain ⟨hc3, hf3⟩ := bcell hb3
      have y3_0 : w1.heap.size < w3.heap.size := by omega
      have y3_1 : w2.heap.size < w3.heap.size := by omega
      go_wp2
      go_ret
      exact ⟨rfl, by go_grown⟩
    · have he : endCallB b g t = endB b g t := by simp [endCallB, hc]
      obtain ⟨f1, f2, f3⟩ := end_facts (g := g) hc
      have I : ∀ w, Calls Try.prog 30 #[.agg #[.int .i64 b.limit, .int .i64 b.rest, .int .i64 b.state, .int .i64 b.fails, .int .i64 b.since], .bool g, .int .i64 t] w (RetBk2 w (endB b g t) true) := fun w => by have := implEndCall_calls b g t w; rwa [hc, he] at this
      have S : ∀ w, Calls Try.prog 29 #[.agg #[.int .i64 b.limit, .int .i64 b.rest, .int .i64 b.state, .int .i64 b.fails, .int .i64 b.since], .bool g, .int .i64 t] w (RetBk2 w (endB b g t) true) := fun w => by have := specEndCall_calls b g t w; rwa [hc, he] at this
      have I := Lib.hid I
      have S := Lib.hid S
      clear he hc
      generalize endB b g t = o at I S f1 f2 f3
      cases g
      · have m2 : (o.state != 2) = true := by simp [f3]
        clear f2 f3
        go_wp2_with fail
        refine (I.out _).mono ?_
        rintro e w2 ⟨rfl, hb2⟩
        have s2 := hb2.size
        try simp at s2
        have B2 : Below w.heap.size w w2 := Below.trans (by go_grown) (hb2.mono (by first | omega | (simp; done) | (simp; omega)))
        have z2 := B2.size
        obtain ⟨hc2, hf2⟩ := bcell hb2
        have y2_0 : w1.heap.size < w2.heap.size := by omega
        go_wp2_with fail
        refine (S.out _).mono ?_
        rintro e w3 ⟨rfl, hb3⟩
        have s3 := hb3.size
        try simp at s3
        have B3 : Below w.heap.size w w3 := Below.trans (by go_grown) (hb3.mono (by first | omega | (simp; done) | (simp; omega)))
        have z3 := B3.size
        obtain ⟨hc3, hf3⟩ := bcell hb3
        have y3_0 : w1.heap.size < w3.heap.size := by omega
        have y3_1 : w2.heap.size < w3.heap.size := by omega
        go_wp2_with fail
        refine (implValidBreaker_calls o _).mono ?_
        rintro e w4 ⟨rfl, hb4⟩
        have s4 := hb4.size
        try simp at s4
        have B4 : Below w.heap.size w w4 := Below.trans (by go_grown) (hb4.mono (by first | omega | (simp; done) | (simp; omega)))
        have z4 := B4.size
        obtain ⟨hc4, hf4⟩ := bcell hb4
        have y4_0 : w1.heap.size < w4.heap.size := by omega
        have y4_1 : w2.heap.size < w4.heap.size := by omega
        have y4_2 : w3.heap.size < w4.heap.size := by omega
        rw [f1]
        go_wp2
        go_ret
        exact ⟨rfl, by go_grown⟩
      · obtain ⟨f4, f5⟩ := f2 rfl
        have m0 : (o.fails == 0) = true := by simp [f4]
        have hx : ((o.state == 0) = true ∧ (b.state != 1) = true) ∨ ((o.state == 0) = false ∧ (b.state != 1) = false) := by
          by_cases hs : b.state = 1
          · right; refine ⟨?_, by simp [hs]⟩; simp; exact fun hh => (f5.1 hh) hs
          · left; exact ⟨by simp [f5.2 hs], by simp [hs]⟩
        clear f2 f3 f4 f5
        rcases hx with ⟨x1, x2⟩ | ⟨x1, x2⟩
        · skip
          go_wp2_with fail
          refine (I.out _).mono ?_
          rintro e w2 ⟨rfl, hb2⟩
          have s2 := hb2.size
          try simp at s2
          have B2 : Below w.heap.size w w2 := Below.trans (by go_grown) (hb2.mono (by first | omega | (simp; done) | (simp; omega)))
          have z2 := B2.size
          obtain ⟨hc2, hf2⟩ := bcell hb2
          have y2_0 : w1.heap.size < w2.heap.size := by omega
          go_wp2_with fail
          refine (S.out _).mono ?_
          rintro e w3 ⟨rfl, hb3⟩
          have s3 := hb3.size
          try simp at s3
          have B3 : Below w.heap.size w w3 := Below.trans (by go_grown) (hb3.mono (by first | omega | (simp; done) | (simp; omega)))
          have z3 := B3.size
          obtain ⟨hc3, hf3⟩ := bcell hb3
          have y3_0 : w1.heap.size < w3.heap.size := by omega
          have y3_1 : w2.heap.size < w3.heap.size := by omega
          go_wp2_with fail
          refine (implValidBreaker_calls o _).mono ?_
          rintro e w4 ⟨rfl, hb4⟩
          have s4 := hb4.size
          try simp at s4
          have B4 : Below w.heap.size w w4 := Below.trans (by go_grown) (hb4.mono (by first | omega | (simp; done) | (simp; omega)))
          have z4 := B4.size
          obtain ⟨hc4, hf4⟩ := bcell hb4
          have y4_0 : w1.heap.size < w4.heap.size := by omega
          have y4_1 : w2.heap.size < w4.heap.size := by omega
          have y4_2 : w3.heap.size < w4.heap.size := by omega
          rw [f1]
          go_wp2
          go_ret
          exact ⟨ret_bool (by simp [*]), by go_grown⟩
        · skip
          go_wp2_with fail
          refine (I.out _).mono ?_
          rintro e w2 ⟨rfl, hb2⟩
          have s2 := hb2.size
          try simp at s2
          have B2 : Below w.heap.size w w2 := Below.trans (by go_grown) (hb2.mono (by first | omega | (simp; done) | (simp; omega)))
          have z2 := B2.size
          obtain ⟨hc2, hf2⟩ := bcell hb2
          have y2_0 : w1.heap.size < w2.heap.size := by omega
          go_wp2_with fail
          refine (S.out _).mono ?_
          rintro e w3 ⟨rfl, hb3⟩
          have s3 := hb3.size
          try simp at s3
          have B3 : Below w.heap.size w w3 := Below.trans (by go_grown) (hb3.mono (by first | omega | (simp; done) | (simp; omega)))
          have z3 := B3.size
          obtain ⟨hc3, hf3⟩ := bcell hb3
          have y3_0 : w1.heap.size < w3.heap.size := by omega
          have y3_1 : w2.heap.size < w3.heap.size := by omega
          go_wp2_with fail
          refine (implValidBreaker_calls o _).mono ?_
          rintro e w4 ⟨rfl, hb4⟩
          have s4 := hb4.size
          try simp at s4
          have B4 : Below w.heap.size w w4 := Below.trans (by go_grown) (hb4.mono (by first | omega | (simp; done) | (simp; omega)))
          have z4 := B4.size
          obtain ⟨hc4, hf4⟩ := bcell hb4
          have y4_0 : w1.heap.size < w4.heap.size := by omega
          have y4_1 : w2.heap.size < w4.heap.size := by omega
          have y4_2 : w3.heap.size < w4.heap.size := by omega
          rw [f1]
          go_wp2
          go_ret
          exact ⟨ret_bool (by simp [*]), by go_grown⟩

theorem fnEndCallTry_walk (ao : Option Addr) (n cap : Nat) (c : Nat → Int) (w : World) (h : Code8 w ao n cap c) : Calls Try.prog 13 #[.slice ao n cap] w (SaysTrue w) := by
  have hcap : n ≤ 9223372036854775807 := by have := h.1; have := h.2.1; unfold maxLen at this; omega
  by_cases hn : 1048576 < n
  · go_enter Try.func13, Try.ntmps13
    go_wp2
    go_ret
    exact ⟨rfl, Below.refl _ _⟩
  · go_enter Try.func13, Try.ntmps13
    go_wp2_with fail
    refine (drawEndCall_calls ao n cap c w h).mono ?_
    rintro e w1 ⟨b, g, t, rfl, hb, ht1, ht2, B1⟩
    have z1 := B1.size
    clear hb
    cases hc : timedB b t
    · have he : endCallB b g t = zeroB := by simp [endCallB, hc]
      have I : ∀ w, Calls Try.prog 30 #[.agg #[.int .i64 b.limit, .int .i64 b.rest, .int .i64 b.state, .int .i64 b.fails, .int .i64 b.since], .bool g, .int .i64 t] w (RetBk2 w (zeroB) false) := fun w => by have := implEndCall_calls b g t w; rwa [hc, he] at this
      have S : ∀ w, Calls Try.prog 29 #[.agg #[.int .i64 b.limit, .int .i64 b.rest, .int .i64 b.state, .int .i64 b.fails, .int .i64 b.since], .bool g, .int .i64 t] w (RetBk2 w (zeroB) false) := fun w => by have := specEndCall_calls b g t w; rwa [hc, he] at this
      have I := Lib.hid I
      have S := Lib.hid S
      clear he hc
      go_wp2_with fail
      refine (I.out _).mono ?_
      rintro e w2 ⟨rfl, hb2⟩
      have s2 := hb2.size
      try simp at s2
      have B2 : Below w.heap.size w w2 := Below.trans (by go_grown) (hb2.mono (by first | omega | (simp; done) | (simp; omega)))
      have z2 := B2.size
      obtain ⟨hc2, hf2⟩ := bcell hb2
      have y2_0 : w1.heap.size < w2.heap.size := by omega
      go_wp2_with fail
      refine (S.out _).mono ?_
      rintro e w3 ⟨rfl, hb3⟩
      have s3 := hb3.size
      try simp at s3
      have B3 : Below w.heap.size w w3 := Below.trans (by go_grown) (hb3.mono (by first | omega | (simp; done) | (simp; omega)))
      have z3 := B3.size
      obtain ⟨hc3, hf3⟩ := bcell hb3
      have y3_0 : w1.heap.size < w3.heap.size := by omega
      have y3_1 : w2.heap.size < w3.heap.size := by omega
      go_wp2
      go_ret
      exact ⟨rfl, by go_grown⟩
    · have he : endCallB b g t = endB b g t := by simp [endCallB, hc]
      have hf := timed_facts hc
      have hv := vB_facts hf.1
      by_cases hs : g = false ∧ b.state = 2
      · obtain ⟨rfl, hs⟩ := hs
        have he2 : endB b false t = turnB b 1 t := by simp [endB, hs]
        rw [he2] at he
        have g := false
        have I : ∀ w, Calls Try.prog 30 #[.agg #[.int .i64 b.limit, .int .i64 b.rest, .int .i64 b.state, .int .i64 b.fails, .int .i64 b.since], .bool false, .int .i64 t] w (RetBk2 w (turnB b 1 t) true) := fun w => by have := implEndCall_calls b false t w; rwa [hc, he] at this
        have S : ∀ w, Calls Try.prog 29 #[.agg #[.int .i64 b.limit, .int .i64 b.rest, .int .i64 b.state, .int .i64 b.fails, .int .i64 b.since], .bool false, .int .i64 t] w (RetBk2 w (turnB b 1 t) true) := fun w => by have := specEndCall_calls b false t w; rwa [hc, he] at this
        have I := Lib.hid I
        have S := Lib.hid S
        have V := turn_valid hf.1 hf.2.2.2.2.1 hf.2.2.2.2.2 1 (by omega)
        have k2 : (b.state == 2) = true := by simp [hs]
        have n2 : (b.state != 2) = false := by simp [hs]
        obtain ⟨_, _, hr1, hr2, _⟩ := hv
        have hb1 := hf.2.2.2.2.1
        have hb2 := hf.2.2.2.2.2
        clear he he2 hc hs hf
        by_cases hm : t + b.rest ≤ 1000
        · have C1 : callB (turnB b 1 t) (t + b.rest - 1) = false := by
            unfold callB letsB
            have : ¬ (b.rest ≤ t + b.rest - 1 - t) := by omega
            simp [turnB, this]
          have C2 : callB (turnB b 1 t) (t + b.rest) = true := by
            have T0 : timedB (turnB b 1 t) (t + b.rest) = true := by simp only [timedB, V, Bool.true_and]; exact inB_mk (by simp [turnB]; omega)
            unfold callB
            rw [T0]
            have hq : b.rest ≤ t + b.rest - t := by omega
            simp only [letsB, turnB, hq, decide_true]
            rfl
          have s1 : (turnB b 1 t).state = 1 := rfl
          clear V
          go_wp2_with fail
          refine (I.out _).mono ?_
          rintro e w2 ⟨rfl, hb2⟩
          have s2 := hb2.size
          try simp at s2
          have B2 : Below w.heap.size w w2 := Below.trans (by go_grown) (hb2.mono (by first | omega | (simp; done) | (simp; omega)))
          have z2 := B2.size
          obtain ⟨hc2, hf2⟩ := bcell hb2
          have y2_0 : w1.heap.size < w2.heap.size := by omega
          go_wp2_with fail
          refine (S.out _).mono ?_
          rintro e w3 ⟨rfl, hb3⟩
          have s3 := hb3.size
          try simp at s3
          have B3 : Below w.heap.size w w3 := Below.trans (by go_grown) (hb3.mono (by first | omega | (simp; done) | (simp; omega)))
          have z3 := B3.size
          obtain ⟨hc3, hf3⟩ := bcell hb3
          have y3_0 : w1.heap.size < w3.heap.size := by omega
          have y3_1 : w2.heap.size < w3.heap.size := by omega
          go_wp2_with fail
          refine (implLetsCall_calls (turnB b 1 t) (t + b.rest - 1) _).mono ?_
          rintro e w4 ⟨rfl, hb4⟩
          have s4 := hb4.size
          try simp at s4
          have B4 : Below w.heap.size w w4 := Below.trans (by go_grown) (hb4.mono (by first | omega | (simp; done) | (simp; omega)))
          have z4 := B4.size
          obtain ⟨hc4, hf4⟩ := bcell hb4
          have y4_0 : w1.heap.size < w4.heap.size := by omega
          have y4_1 : w2.heap.size < w4.heap.size := by omega
          have y4_2 : w3.heap.size < w4.heap.size := by omega
          rw [C1]
          clear C1
          go_wp2_with fail
          refine (implLetsCall_calls (turnB b 1 t) (t + b.rest) _).mono ?_
          rintro e w5 ⟨rfl, hb5⟩
          have s5 := hb5.size
          try simp at s5
          have B5 : Below w.heap.size w w5 := Below.trans (by go_grown) (hb5.mono (by first | omega | (simp; done) | (simp; omega)))
          have z5 := B5.size
          obtain ⟨hc5, hf5⟩ := bcell hb5
          have y5_0 : w1.heap.size < w5.heap.size := by omega
          have y5_1 : w2.heap.size < w5.heap.size := by omega
          have y5_2 : w3.heap.size < w5.heap.size := by omega
          rw [C2]
          go_wp2
          go_ret
          exact ⟨rfl, by go_grown⟩
        · skip
          go_wp2_with fail
          refine (I.out _).mono ?_
          rintro e w2 ⟨rfl, hb2⟩
          have s2 := hb2.size
          try simp at s2
          have B2 : Below w.heap.size w w2 := Below.trans (by go_grown) (hb2.mono (by first | omega | (simp; done) | (simp; omega)))
          have z2 := B2.size
          obtain ⟨hc2, hf2⟩ := bcell hb2
          have y2_0 : w1.heap.size < w2.heap.size := by omega
          go_wp2_with fail
          refine (S.out _).mono ?_
          rintro e w3 ⟨rfl, hb3⟩
          have s3 := hb3.size
          try simp at s3
          have B3 : Below w.heap.size w w3 := Below.trans (by go_grown) (hb3.mono (by first | omega | (simp; done) | (simp; omega)))
          have z3 := B3.size
          obtain ⟨hc3, hf3⟩ := bcell hb3
          have y3_0 : w1.heap.size < w3.heap.size := by omega
          have y3_1 : w2.heap.size < w3.heap.size := by omega
          go_wp2
          go_ret
          exact ⟨rfl, by go_grown⟩
      · have I : ∀ w, Calls Try.prog 30 #[.agg #[.int .i64 b.limit, .int .i64 b.rest, .int .i64 b.state, .int .i64 b.fails, .int .i64 b.since], .bool g, .int .i64 t] w (RetBk2 w (endB b g t) true) := fun w => by have := implEndCall_calls b g t w; rwa [hc, he] at this
        have S : ∀ w, Calls Try.prog 29 #[.agg #[.int .i64 b.limit, .int .i64 b.rest, .int .i64 b.state, .int .i64 b.fails, .int .i64 b.since], .bool g, .int .i64 t] w (RetBk2 w (endB b g t) true) := fun w => by have := specEndCall_calls b g t w; rwa [hc, he] at this
        have I := Lib.hid I
        have S := Lib.hid S
        generalize endB b g t = o at I S
        clear he hc
        cases g
        · have k2 : (b.state == 2) = false := by simp; exact fun hh => hs ⟨rfl, hh⟩
          have n2 : (b.state != 2) = true := by simp; exact fun hh => hs ⟨rfl, hh⟩
          clear hs hf hv
          go_wp2_with fail
          refine (I.out _).mono ?_
          rintro e w2 ⟨rfl, hb2⟩
          have s2 := hb2.size
          try simp at s2
          have B2 : Below w.heap.size w w2 := Below.trans (by go_grown) (hb2.mono (by first | omega | (simp; done) | (simp; omega)))
          have z2 := B2.size
          obtain ⟨hc2, hf2⟩ := bcell hb2
          have y2_0 : w1.heap.size < w2.heap.size := by omega
          go_wp2_with fail
          refine (S.out _).mono ?_
          rintro e w3 ⟨rfl, hb3⟩
          have s3 := hb3.size
          try simp at s3
          have B3 : Below w.heap.size w w3 := Below.trans (by go_grown) (hb3.mono (by first | omega | (simp; done) | (simp; omega)))
          have z3 := B3.size
          obtain ⟨hc3, hf3⟩ := bcell hb3
          have y3_0 : w1.heap.size < w3.heap.size := by omega
          have y3_1 : w2.heap.size < w3.heap.size := by omega
          go_wp2
          go_ret
          exact ⟨rfl, by go_grown⟩
        · clear hs hf hv
          go_wp2_with fail
          refine (I.out _).mono ?_
          rintro e w2 ⟨rfl, hb2⟩
          have s2 := hb2.size
          try simp at s2
          have B2 : Below w.heap.size w w2 := Below.trans (by go_grown) (hb2.mono (by first | omega | (simp; done) | (simp; omega)))
          have z2 := B2.size
          obtain ⟨hc2, hf2⟩ := bcell hb2
          have y2_0 : w1.heap.size < w2.heap.size := by omega
          go_wp2_with fail
          refine (S.out _).mono ?_
          rintro e w3 ⟨rfl, hb3⟩
          have s3 := hb3.size
          try simp at s3
          have B3 : Below w.heap.size w w3 := Below.trans (by go_grown) (hb3.mono (by first | omega | (simp; done) | (simp; omega)))
          have z3 := B3.size
          obtain ⟨hc3, hf3⟩ := bcell hb3
          have y3_0 : w1.heap.size < w3.heap.size := by omega
          have y3_1 : w2.heap.size < w3.heap.size := by omega
          go_wp2
          go_ret
          exact ⟨rfl, by go_grown⟩

end Go.Proofs.Ytcgnaokpdlbhbaa
