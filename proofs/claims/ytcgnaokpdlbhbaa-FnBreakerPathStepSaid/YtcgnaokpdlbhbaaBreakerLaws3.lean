/- The walks of FnBeginCall, FnBeginCallLets, FnBeginCallTwice. -/
import Derived.Test.YtcgnaokpdlbhbaaDrawBreaker2
namespace Go.Proofs.Ytcgnaokpdlbhbaa
open Go.ChangeShapes Go.WideShapes Go.ChangeAt Go.RowKit
set_option linter.unusedVariables false

theorem fnBeginCallLets_walk (ao : Option Addr) (n cap : Nat) (c : Nat → Int) (w : World) (h : Code8 w ao n cap c) : Calls Try.prog 10 #[.slice ao n cap] w (SaysTrue w) := by
  have hcap : n ≤ 9223372036854775807 := by have := h.1; have := h.2.1; unfold maxLen at this; omega
  by_cases hn : 1048576 < n
  · go_enter Try.func10, Try.ntmps10
    go_wp2
    go_ret
    exact ⟨rfl, Below.refl _ _⟩
  · go_enter Try.func10, Try.ntmps10
    go_wp2_with fail
    refine (drawBeginCall_calls ao n cap c w h).mono ?_
    rintro e w1 ⟨b, t, rfl, hb, ht1, ht2, B1⟩
    have z1 := B1.size
    clear hb
    go_wp2_with fail
    refine (implBeginCall_calls b t _).mono ?_
    rintro e w2 ⟨rfl, hb2⟩
    have s2 := hb2.size
    try simp at s2
    have B2 : Below w.heap.size w w2 := Below.trans (by go_grown) (hb2.mono (by first | omega | (simp; done) | (simp; omega)))
    have z2 := B2.size
    obtain ⟨hc2, hf2⟩ := bcell hb2
    have y2_0 : w1.heap.size < w2.heap.size := by omega
    go_wp2_with fail
    refine (specBeginCall_calls b t _).mono ?_
    rintro e w3 ⟨rfl, hb3⟩
    have s3 := hb3.size
    try simp at s3
    have B3 : Below w.heap.size w w3 := Below.trans (by go_grown) (hb3.mono (by first | omega | (simp; done) | (simp; omega)))
    have z3 := B3.size
    obtain ⟨hc3, hf3⟩ := bcell hb3
    have y3_0 : w1.heap.size < w3.heap.size := by omega
    have y3_1 : w2.heap.size < w3.heap.size := by omega
    go_wp2_with fail
    refine (implLetsCall_calls b t _).mono ?_
    rintro e w4 ⟨rfl, hb4⟩
    have s4 := hb4.size
    try simp at s4
    have B4 : Below w.heap.size w w4 := Below.trans (by go_grown) (hb4.mono (by first | omega | (simp; done) | (simp; omega)))
    have z4 := B4.size
    obtain ⟨hc4, hf4⟩ := bcell hb4
    have y4_0 : w1.heap.size < w4.heap.size := by omega
    have y4_1 : w2.heap.size < w4.heap.size := by omega
    have y4_2 : w3.heap.size < w4.heap.size := by omega
    go_wp2
    go_ret
    exact ⟨ret_bool (by simp), by go_grown⟩

theorem call_facts {b : Bk} {t : Int} (h : callB b t = true) : vB b = true ∧ timedB b t = true ∧ b.since ≤ t ∧ t ≤ 1000 ∧ (b.state = 0 ∨ b.state = 1) := by
  simp only [callB, Bool.and_eq_true] at h
  have hf := timed_facts h.1
  refine ⟨hf.1, h.1, by omega, by omega, ?_⟩
  have := h.2
  simp [letsB] at this
  omega
theorem turn_valid {b : Bk} {t : Int} (hv : vB b = true) (h0 : b.since ≤ t) (h1 : t ≤ 1000) (s : Int) (hs : 0 ≤ s ∧ s ≤ 2) : vB (turnB b s t) = true := by
  have := vB_facts hv
  exact vB_mk (by simp [turnB]; omega)

theorem fnBeginCall_walk (ao : Option Addr) (n cap : Nat) (c : Nat → Int) (w : World) (h : Code8 w ao n cap c) : Calls Try.prog 9 #[.slice ao n cap] w (SaysTrue w) := by
  have hcap : n ≤ 9223372036854775807 := by have := h.1; have := h.2.1; unfold maxLen at this; omega
  by_cases hn : 1048576 < n
  · go_enter Try.func9, Try.ntmps9
    go_wp2
    go_ret
    exact ⟨rfl, Below.refl _ _⟩
  · go_enter Try.func9, Try.ntmps9
    go_wp2_with fail
    refine (drawBeginCall_calls ao n cap c w h).mono ?_
    rintro e w1 ⟨b, t, rfl, hb, ht1, ht2, B1⟩
    have z1 := B1.size
    clear hb
    cases hc : callB b t
    · have he : beginCallB b t = zeroB := by simp [beginCallB, hc]
      have I : ∀ w, Calls Try.prog 27 #[.agg #[.int .i64 b.limit, .int .i64 b.rest, .int .i64 b.state, .int .i64 b.fails, .int .i64 b.since], .int .i64 t] w (RetBk2 w (zeroB) false) := fun w => by have := implBeginCall_calls b t w; rwa [hc, he] at this
      have S : ∀ w, Calls Try.prog 26 #[.agg #[.int .i64 b.limit, .int .i64 b.rest, .int .i64 b.state, .int .i64 b.fails, .int .i64 b.since], .int .i64 t] w (RetBk2 w (zeroB) false) := fun w => by have := specBeginCall_calls b t w; rwa [hc, he] at this
      have I := Lib.hid I
      have S := Lib.hid S
      clear he hc
      go_wp2_with fail
      refine (I.out _).mono ?_
      rintro e w2 ⟨rfl, hb2⟩
      have s2 := hb2.size
      try simp at s2
      have B2 : Below w.heap.size w w2 := Below.trans (by go_grown) (hb2.mono (by first | omega | (simp; done) | (simp; omega)))
      have z2 := B2.size
      obtain ⟨hc2, hf2⟩ := bcell hb2
      have y2_0 : w1.heap.size < w2.heap.size := by omega
      go_wp2_with fail
      refine (S.out _).mono ?_
      rintro e w3 ⟨rfl, hb3⟩
      have s3 := hb3.size
      try simp at s3
      have B3 : Below w.heap.size w w3 := Below.trans (by go_grown) (hb3.mono (by first | omega | (simp; done) | (simp; omega)))
      have z3 := B3.size
      obtain ⟨hc3, hf3⟩ := bcell hb3
      have y3_0 : w1.heap.size < w3.heap.size := by omega
      have y3_1 : w2.heap.size < w3.heap.size := by omega
      go_wp2
      go_ret
      exact ⟨rfl, by go_grown⟩
    · obtain ⟨hv, _, hs0, hs1, hst⟩ := call_facts hc
      rcases hst with hs | hs
      · have he : beginCallB b t = b := by simp [beginCallB, hc, beginB, hs]
        have I : ∀ w, Calls Try.prog 27 #[.agg #[.int .i64 b.limit, .int .i64 b.rest, .int .i64 b.state, .int .i64 b.fails, .int .i64 b.since], .int .i64 t] w (RetBk2 w (b) true) := fun w => by have := implBeginCall_calls b t w; rwa [hc, he] at this
        have S : ∀ w, Calls Try.prog 26 #[.agg #[.int .i64 b.limit, .int .i64 b.rest, .int .i64 b.state, .int .i64 b.fails, .int .i64 b.since], .int .i64 t] w (RetBk2 w (b) true) := fun w => by have := specBeginCall_calls b t w; rwa [hc, he] at this
        have I := Lib.hid I
        have S := Lib.hid S
        have k0 : (b.state == 0) = true := by simp [hs]
        have n0 : (b.state != 0) = false := by simp [hs]
        clear he hc hs
        go_wp2_with fail
        refine (I.out _).mono ?_
        rintro e w2 ⟨rfl, hb2⟩
        have s2 := hb2.size
        try simp at s2
        have B2 : Below w.heap.size w w2 := Below.trans (by go_grown) (hb2.mono (by first | omega | (simp; done) | (simp; omega)))
        have z2 := B2.size
        obtain ⟨hc2, hf2⟩ := bcell hb2
        have y2_0 : w1.heap.size < w2.heap.size := by omega
        go_wp2_with fail
        refine (S.out _).mono ?_
        rintro e w3 ⟨rfl, hb3⟩
        have s3 := hb3.size
        try simp at s3
        have B3 : Below w.heap.size w w3 := Below.trans (by go_grown) (hb3.mono (by first | omega | (simp; done) | (simp; omega)))
        have z3 := B3.size
        obtain ⟨hc3, hf3⟩ := bcell hb3
        have y3_0 : w1.heap.size < w3.heap.size := by omega
        have y3_1 : w2.heap.size < w3.heap.size := by omega
        go_wp2
        go_ret
        exact ⟨ret_bool (by simp), by go_grown⟩
      · have he : beginCallB b t = turnB b 2 t := by simp [beginCallB, hc, beginB, hs]
        have I : ∀ w, Calls Try.prog 27 #[.agg #[.int .i64 b.limit, .int .i64 b.rest, .int .i64 b.state, .int .i64 b.fails, .int .i64 b.since], .int .i64 t] w (RetBk2 w (turnB b 2 t) true) := fun w => by have := implBeginCall_calls b t w; rwa [hc, he] at this
        have S : ∀ w, Calls Try.prog 26 #[.agg #[.int .i64 b.limit, .int .i64 b.rest, .int .i64 b.state, .int .i64 b.fails, .int .i64 b.since], .int .i64 t] w (RetBk2 w (turnB b 2 t) true) := fun w => by have := specBeginCall_calls b t w; rwa [hc, he] at this
        have I := Lib.hid I
        have S := Lib.hid S
        have V := turn_valid hv hs0 hs1 2 (by omega)
        have C : callB (turnB b 2 t) t = false := by simp [callB, letsB, turnB]
        have k0 : (b.state == 0) = false := by simp [hs]
        have n0 : (b.state != 0) = true := by simp [hs]
        clear he hc hs hv
        go_wp2_with fail
        refine (I.out _).mono ?_
        rintro e w2 ⟨rfl, hb2⟩
        have s2 := hb2.size
        try simp at s2
        have B2 : Below w.heap.size w w2 := Below.trans (by go_grown) (hb2.mono (by first | omega | (simp; done) | (simp; omega)))
        have z2 := B2.size
        obtain ⟨hc2, hf2⟩ := bcell hb2
        have y2_0 : w1.heap.size < w2.heap.size := by omega
        go_wp2_with fail
        refine (S.out _).mono ?_
        rintro e w3 ⟨rfl, hb3⟩
        have s3 := hb3.size
        try simp at s3
        have B3 : Below w.heap.size w w3 := Below.trans (by go_grown) (hb3.mono (by first | omega | (simp; done) | (simp; omega)))
        have z3 := B3.size
        obtain ⟨hc3, hf3⟩ := bcell hb3
        have y3_0 : w1.heap.size < w3.heap.size := by omega
        have y3_1 : w2.heap.size < w3.heap.size := by omega
        go_wp2_with fail
        refine (implLetsCall_calls (turnB b 2 t) t _).mono ?_
        rintro e w4 ⟨rfl, hb4⟩
        have s4 := hb4.size
        try simp at s4
        have B4 : Below w.heap.size w w4 := Below.trans (by go_grown) (hb4.mono (by first | omega | (simp; done) | (simp; omega)))
        have z4 := B4.size
        obtain ⟨hc4, hf4⟩ := bcell hb4
        have y4_0 : w1.heap.size < w4.heap.size := by omega
        have y4_1 : w2.heap.size < w4.heap.size := by omega
        have y4_2 : w3.heap.size < w4.heap.size := by omega
        rw [C]
        clear C
        go_wp2_with fail
        refine (implValidBreaker_calls (turnB b 2 t) _).mono ?_
        rintro e w5 ⟨rfl, hb5⟩
        have s5 := hb5.size
        try simp at s5
        have B5 : Below w.heap.size w w5 := Below.trans (by go_grown) (hb5.mono (by first | omega | (simp; done) | (simp; omega)))
        have z5 := B5.size
        obtain ⟨hc5, hf5⟩ := bcell hb5
        have y5_0 : w1.heap.size < w5.heap.size := by omega
        have y5_1 : w2.heap.size < w5.heap.size := by omega
        have y5_2 : w3.heap.size < w5.heap.size := by omega
        rw [V]
        go_wp2
        go_ret
        exact ⟨rfl, by go_grown⟩

theorem fnBeginCallTwice_walk (ao : Option Addr) (n cap : Nat) (c : Nat → Int) (w : World) (h : Code8 w ao n cap c) : Calls Try.prog 14 #[.slice ao n cap] w (SaysTrue w) := by
  have hcap : n ≤ 9223372036854775807 := by have := h.1; have := h.2.1; unfold maxLen at this; omega
  by_cases hn : 1048576 < n
  · go_enter Try.func14, Try.ntmps14
    go_wp2
    go_ret
    exact ⟨rfl, Below.refl _ _⟩
  · go_enter Try.func14, Try.ntmps14
    go_wp2_with fail
    refine (drawBeginCall_calls ao n cap c w h).mono ?_
    rintro e w1 ⟨b, t, rfl, hb, ht1, ht2, B1⟩
    have z1 := B1.size
    clear hb
    cases hc : callB b t
    · have he : beginCallB b t = zeroB := by simp [beginCallB, hc]
      have I : ∀ w, Calls Try.prog 27 #[.agg #[.int .i64 b.limit, .int .i64 b.rest, .int .i64 b.state, .int .i64 b.fails, .int .i64 b.since], .int .i64 t] w (RetBk2 w (zeroB) false) := fun w => by have := implBeginCall_calls b t w; rwa [hc, he] at this
      have S : ∀ w, Calls Try.prog 26 #[.agg #[.int .i64 b.limit, .int .i64 b.rest, .int .i64 b.state, .int .i64 b.fails, .int .i64 b.since], .int .i64 t] w (RetBk2 w (zeroB) false) := fun w => by have := specBeginCall_calls b t w; rwa [hc, he] at this
      have I := Lib.hid I
      have S := Lib.hid S
      clear he hc
      go_wp2_with fail
      refine (I.out _).mono ?_
      rintro e w2 ⟨rfl, hb2⟩
      have s2 := hb2.size
      try simp at s2
      have B2 : Below w.heap.size w w2 := Below.trans (by go_grown) (hb2.mono (by first | omega | (simp; done) | (simp; omega)))
      have z2 := B2.size
      obtain ⟨hc2, hf2⟩ := bcell hb2
      have y2_0 : w1.heap.size < w2.heap.size := by omega
      go_wp2_with fail
      refine (S.out _).mono ?_
      rintro e w3 ⟨rfl, hb3⟩
      have s3 := hb3.size
      try simp at s3
      have B3 : Below w.heap.size w w3 := Below.trans (by go_grown) (hb3.mono (by first | omega | (simp; done) | (simp; omega)))
      have z3 := B3.size
      obtain ⟨hc3, hf3⟩ := bcell hb3
      have y3_0 : w1.heap.size < w3.heap.size := by omega
      have y3_1 : w2.heap.size < w3.heap.size := by omega
      go_wp2
      go_ret
      exact ⟨rfl, by go_grown⟩
    · obtain ⟨hv, _, hs0, hs1, hst⟩ := call_facts hc
      rcases hst with hs | hs
      · have he : beginCallB b t = b := by simp [beginCallB, hc, beginB, hs]
        have I : ∀ w, Calls Try.prog 27 #[.agg #[.int .i64 b.limit, .int .i64 b.rest, .int .i64 b.state, .int .i64 b.fails, .int .i64 b.since], .int .i64 t] w (RetBk2 w (b) true) := fun w => by have := implBeginCall_calls b t w; rwa [hc, he] at this
        have S : ∀ w, Calls Try.prog 26 #[.agg #[.int .i64 b.limit, .int .i64 b.rest, .int .i64 b.state, .int .i64 b.fails, .int .i64 b.since], .int .i64 t] w (RetBk2 w (b) true) := fun w => by have := specBeginCall_calls b t w; rwa [hc, he] at this
        have I := Lib.hid I
        have S := Lib.hid S
        have k1 : (b.state == 1) = false := by simp [hs]
        have n1 : (b.state != 1) = true := by simp [hs]
        clear he hc hs
        go_wp2_with fail
        refine (I.out _).mono ?_
        rintro e w2 ⟨rfl, hb2⟩
        have s2 := hb2.size
        try simp at s2
        have B2 : Below w.heap.size w w2 := Below.trans (by go_grown) (hb2.mono (by first | omega | (simp; done) | (simp; omega)))
        have z2 := B2.size
        obtain ⟨hc2, hf2⟩ := bcell hb2
        have y2_0 : w1.heap.size < w2.heap.size := by omega
        go_wp2_with fail
        refine (S.out _).mono ?_
        rintro e w3 ⟨rfl, hb3⟩
        have s3 := hb3.size
        try simp at s3
        have B3 : Below w.heap.size w w3 := Below.trans (by go_grown) (hb3.mono (by first | omega | (simp; done) | (simp; omega)))
        have z3 := B3.size
        obtain ⟨hc3, hf3⟩ := bcell hb3
        have y3_0 : w1.heap.size < w3.heap.size := by omega
        have y3_1 : w2.heap.size < w3.heap.size := by omega
        go_wp2
        go_ret
        exact ⟨ret_bool (by simp), by go_grown⟩
      · have he : beginCallB b t = turnB b 2 t := by simp [beginCallB, hc, beginB, hs]
        have I : ∀ w, Calls Try.prog 27 #[.agg #[.int .i64 b.limit, .int .i64 b.rest, .int .i64 b.state, .int .i64 b.fails, .int .i64 b.since], .int .i64 t] w (RetBk2 w (turnB b 2 t) true) := fun w => by have := implBeginCall_calls b t w; rwa [hc, he] at this
        have S : ∀ w, Calls Try.prog 26 #[.agg #[.int .i64 b.limit, .int .i64 b.rest, .int .i64 b.state, .int .i64 b.fails, .int .i64 b.since], .int .i64 t] w (RetBk2 w (turnB b 2 t) true) := fun w => by have := specBeginCall_calls b t w; rwa [hc, he] at this
        have I := Lib.hid I
        have S := Lib.hid S
        have V := turn_valid hv hs0 hs1 2 (by omega)
        have C : callB (turnB b 2 t) t = false := by simp [callB, letsB, turnB]
        have T : timedB (turnB b 2 t) t = true := by simp only [timedB, V, Bool.true_and]; exact inB_mk (by simp [turnB]; omega)
        have E : endCallB (turnB b 2 t) true t = turnB b 0 t := by unfold endCallB; rw [T]; simp [endB, turnB]
        have C2 : callB (turnB b 0 t) t = true := by
          have V0 := turn_valid hv hs0 hs1 0 (by omega)
          have T0 : timedB (turnB b 0 t) t = true := by simp only [timedB, V0, Bool.true_and]; exact inB_mk (by simp [turnB]; omega)
          unfold callB; rw [T0]; simp [letsB, turnB]
        have k1 : (b.state == 1) = true := by simp [hs]
        have n1 : (b.state != 1) = false := by simp [hs]
        clear he hc hs hv V
        go_wp2_with fail
        refine (I.out _).mono ?_
        rintro e w2 ⟨rfl, hb2⟩
        have s2 := hb2.size
        try simp at s2
        have B2 : Below w.heap.size w w2 := Below.trans (by go_grown) (hb2.mono (by first | omega | (simp; done) | (simp; omega)))
        have z2 := B2.size
        obtain ⟨hc2, hf2⟩ := bcell hb2
        have y2_0 : w1.heap.size < w2.heap.size := by omega
        go_wp2_with fail
        refine (S.out _).mono ?_
        rintro e w3 ⟨rfl, hb3⟩
        have s3 := hb3.size
        try simp at s3
        have B3 : Below w.heap.size w w3 := Below.trans (by go_grown) (hb3.mono (by first | omega | (simp; done) | (simp; omega)))
        have z3 := B3.size
        obtain ⟨hc3, hf3⟩ := bcell hb3
        have y3_0 : w1.heap.size < w3.heap.size := by omega
        have y3_1 : w2.heap.size < w3.heap.size := by omega
        go_wp2_with fail
        refine (implBeginCall_calls (turnB b 2 t) t _).mono ?_
        rintro e w4 ⟨rfl, hb4⟩
        have s4 := hb4.size
        try simp at s4
        have B4 : Below w.heap.size w w4 := Below.trans (by go_grown) (hb4.mono (by first | omega | (simp; done) | (simp; omega)))
        have z4 := B4.size
        obtain ⟨hc4, hf4⟩ := bcell hb4
        have y4_0 : w1.heap.size < w4.heap.size := by omega
        have y4_1 : w2.heap.size < w4.heap.size := by omega
        have y4_2 : w3.heap.size < w4.heap.size := by omega
        rw [C]
        clear C
        go_wp2_with fail
        refine (implEndCall_calls (turnB b 2 t) true t _).mono ?_
        rintro e w5 ⟨rfl, hb5⟩
        have s5 := hb5.size
        try simp at s5
        have B5 : Below w.heap.size w w5 := Below.trans (by go_grown) (hb5.mono (by first | omega | (simp; done) | (simp; omega)))
        have z5 := B5.size
        obtain ⟨hc5, hf5⟩ := bcell hb5
        have y5_0 : w1.heap.size < w5.heap.size := by omega
        have y5_1 : w2.heap.size < w5.heap.size := by omega
        have y5_2 : w3.heap.size < w5.heap.size := by omega
        rw [T, E]
        clear T E
        go_wp2_with fail
        refine (implLetsCall_calls (turnB b 0 t) t _).mono ?_
        rintro e w6 ⟨rfl, hb6⟩
        have s6 := hb6.size
        try simp at s6
        have B6 : Below w.heap.size w w6 := Below.trans (by go_grown) (hb6.mono (by first | omega | (simp; done) | (simp; omega)))
        have z6 := B6.size
        obtain ⟨hc6, hf6⟩ := bcell hb6
        have y6_0 : w1.heap.size < w6.heap.size := by omega
        have y6_1 : w2.heap.size < w6.heap.size := by omega
        have y6_2 : w3.heap.size < w6.heap.size := by omega
        rw [C2]
        go_wp2
        go_ret
        exact ⟨rfl, by go_grown⟩

end Go.Proofs.Ytcgnaokpdlbhbaa
