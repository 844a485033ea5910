/- The walks of FnValidBreaker, FnLetsCall. -/
import Derived.Test.YtcgnaokpdlbhbaaDrawBreaker2
namespace Go.Proofs.Ytcgnaokpdlbhbaa
open Go.ChangeShapes Go.WideShapes Go.ChangeAt Go.RowKit
set_option linter.unusedVariables false

theorem fnValidBreaker_walk (ao : Option Addr) (n cap : Nat) (c : Nat → Int) (w : World) (h : Code8 w ao n cap c) : Calls Try.prog 5 #[.slice ao n cap] w (SaysTrue w) := by
  have hcap : n ≤ 9223372036854775807 := by have := h.1; have := h.2.1; unfold maxLen at this; omega
  by_cases hn : 1048576 < n
  · go_enter Try.func5, Try.ntmps5
    go_wp2
    go_ret
    exact ⟨rfl, Below.refl _ _⟩
  · go_enter Try.func5, Try.ntmps5
    go_wp2_with fail
    refine (drawValidBreaker_calls ao n cap c w h).mono ?_
    rintro e w1 ⟨b, rfl, hb, B1⟩
    have z1 := B1.size
    clear hb
    go_wp2_with fail
    refine (implValidBreaker_calls b _).mono ?_
    rintro e w2 ⟨rfl, hb2⟩
    have s2 := hb2.size
    try simp at s2
    have B2 : Below w.heap.size w w2 := Below.trans (by go_grown) (hb2.mono (by first | omega | (simp; done) | (simp; omega)))
    have z2 := B2.size
    obtain ⟨hc2, hf2⟩ := bcell hb2
    have y2_0 : w1.heap.size < w2.heap.size := by omega
    cases hv : vB b
    · skip
      go_wp2_with fail
      refine (specValidBreaker_calls b _).mono ?_
      rintro e w3 ⟨rfl, hb3⟩
      have s3 := hb3.size
      try simp at s3
      have B3 : Below w.heap.size w w3 := Below.trans (by go_grown) (hb3.mono (by first | omega | (simp; done) | (simp; omega)))
      have z3 := B3.size
      obtain ⟨hc3, hf3⟩ := bcell hb3
      have y3_0 : w1.heap.size < w3.heap.size := by omega
      rw [hv]
      go_wp2_with fail
      refine (specValidBreaker_calls b _).mono ?_
      rintro e w4 ⟨rfl, hb4⟩
      have s4 := hb4.size
      try simp at s4
      have B4 : Below w.heap.size w w4 := Below.trans (by go_grown) (hb4.mono (by first | omega | (simp; done) | (simp; omega)))
      have z4 := B4.size
      obtain ⟨hc4, hf4⟩ := bcell hb4
      have y4_0 : w1.heap.size < w4.heap.size := by omega
      rw [hv]
      go_wp2
      go_ret
      exact ⟨rfl, B4⟩
    · skip
      go_wp2_with fail
      refine (specValidBreaker_calls b _).mono ?_
      rintro e w3 ⟨rfl, hb3⟩
      have s3 := hb3.size
      try simp at s3
      have B3 : Below w.heap.size w w3 := Below.trans (by go_grown) (hb3.mono (by first | omega | (simp; done) | (simp; omega)))
      have z3 := B3.size
      obtain ⟨hc3, hf3⟩ := bcell hb3
      have y3_0 : w1.heap.size < w3.heap.size := by omega
      have hf := vB_facts hv
      have hv2 : vB ⟨b.limit, b.rest, 0, 0, b.since⟩ = true := vB_mk (by simp; omega)
      rw [hv]
      go_wp2_with fail
      refine (implValidBreaker_calls ⟨b.limit, b.rest, 0, 0, b.since⟩ _).mono ?_
      rintro e w4 ⟨rfl, hb4⟩
      have s4 := hb4.size
      try simp at s4
      have B4 : Below w.heap.size w w4 := Below.trans (by go_grown) (hb4.mono (by first | omega | (simp; done) | (simp; omega)))
      have z4 := B4.size
      obtain ⟨hc4, hf4⟩ := bcell hb4
      have y4_0 : w1.heap.size < w4.heap.size := by omega
      rw [hv2]
      go_wp2
      go_ret
      exact ⟨rfl, B4⟩

theorem fnLetsCall_walk (ao : Option Addr) (n cap : Nat) (c : Nat → Int) (w : World) (h : Code8 w ao n cap c) : Calls Try.prog 6 #[.slice ao n cap] w (SaysTrue w) := by
  have hcap : n ≤ 9223372036854775807 := by have := h.1; have := h.2.1; unfold maxLen at this; omega
  by_cases hn : 1048576 < n
  · go_enter Try.func6, Try.ntmps6
    go_wp2
    go_ret
    exact ⟨rfl, Below.refl _ _⟩
  · go_enter Try.func6, Try.ntmps6
    go_wp2_with fail
    refine (drawLetsCall_calls ao n cap c w h).mono ?_
    rintro e w1 ⟨b, t, rfl, hb, ht1, ht2, B1⟩
    have z1 := B1.size
    clear hb
    go_wp2_with fail
    refine (implLetsCall_calls b t _).mono ?_
    rintro e w2 ⟨rfl, hb2⟩
    have s2 := hb2.size
    try simp at s2
    have B2 : Below w.heap.size w w2 := Below.trans (by go_grown) (hb2.mono (by first | omega | (simp; done) | (simp; omega)))
    have z2 := B2.size
    obtain ⟨hc2, hf2⟩ := bcell hb2
    have y2_0 : w1.heap.size < w2.heap.size := by omega
    go_wp2_with fail
    refine (specLetsCall_calls b t _).mono ?_
    rintro e w3 ⟨rfl, hb3⟩
    have s3 := hb3.size
    try simp at s3
    have B3 : Below w.heap.size w w3 := Below.trans (by go_grown) (hb3.mono (by first | omega | (simp; done) | (simp; omega)))
    have z3 := B3.size
    obtain ⟨hc3, hf3⟩ := bcell hb3
    have y3_0 : w1.heap.size < w3.heap.size := by omega
    go_wp2_with fail
    refine (implValidBreaker_calls b _).mono ?_
    rintro e w4 ⟨rfl, hb4⟩
    have s4 := hb4.size
    try simp at s4
    have B4 : Below w.heap.size w w4 := Below.trans (by go_grown) (hb4.mono (by first | omega | (simp; done) | (simp; omega)))
    have z4 := B4.size
    obtain ⟨hc4, hf4⟩ := bcell hb4
    have y4_0 : w1.heap.size < w4.heap.size := by omega
    cases hv : vB b
    · skip
      go_wp2_with fail
      refine (specLetsCall_calls b t _).mono ?_
      rintro e w5 ⟨rfl, hb5⟩
      have s5 := hb5.size
      try simp at s5
      have B5 : Below w.heap.size w w5 := Below.trans (by go_grown) (hb5.mono (by first | omega | (simp; done) | (simp; omega)))
      have z5 := B5.size
      obtain ⟨hc5, hf5⟩ := bcell hb5
      have y5_0 : w1.heap.size < w5.heap.size := by omega
      go_wp2
      go_ret
      exact ⟨ret_bool (by simp), B5⟩
    · have hf := vB_facts hv
      by_cases hi : b.since ≤ t ∧ t < 1000
      · obtain ⟨hi1, hi2⟩ := hi
        have t1 : timedB b t = true := by simp only [timedB, hv, Bool.true_and]; exact inB_mk (by omega)
        have t2 : timedB b (t + 1) = true := by simp only [timedB, hv, Bool.true_and]; exact inB_mk (by omega)
        have e1 : callB b t = letsB b t := by simp [callB, t1]
        have e2 : callB b (t + 1) = letsB b (t + 1) := by simp [callB, t2]
        rw [e1]
        clear e1 t1 t2 hv
        have hst : b.state = 0 ∨ b.state = 1 ∨ b.state = 2 := by omega
        rcases hst with hs | hs | hs
        · skip
          have k0 : (b.state == 0) = true := by simp [hs]
          have n0 : (b.state != 0) = false := by simp [hs]
          have k1 : (b.state == 1) = false := by simp [hs]
          have n1 : (b.state != 1) = true := by simp [hs]
          have k2 : (b.state == 2) = false := by simp [hs]
          have n2 : (b.state != 2) = true := by simp [hs]
          have l1 : letsB b t = true := by simp [letsB, hs]
          have l2 : letsB b (t + 1) = true := by simp [letsB, hs]
          rw [l1]
          rw [l2] at e2
          clear l1 l2 hs
          go_wp2_with fail
          refine (implLetsCall_calls b (t + 1) _).mono ?_
          rintro e w5 ⟨rfl, hb5⟩
          have s5 := hb5.size
          try simp at s5
          have B5 : Below w.heap.size w w5 := Below.trans (by go_grown) (hb5.mono (by first | omega | (simp; done) | (simp; omega)))
          have z5 := B5.size
          obtain ⟨hc5, hf5⟩ := bcell hb5
          have y5_0 : w1.heap.size < w5.heap.size := by omega
          rw [e2]
          clear e2
          go_wp2
          go_ret
          exact ⟨rfl, B5⟩
        · skip
          have k0 : (b.state == 0) = false := by simp [hs]
          have n0 : (b.state != 0) = true := by simp [hs]
          have k1 : (b.state == 1) = true := by simp [hs]
          have n1 : (b.state != 1) = false := by simp [hs]
          have k2 : (b.state == 2) = false := by simp [hs]
          have n2 : (b.state != 2) = true := by simp [hs]
          by_cases hr : b.rest ≤ t - b.since
          · have l1 : letsB b t = true := by simp [letsB, hs, hr]
            have l2 : letsB b (t + 1) = true := by simp [letsB, hs]; omega
            rw [l1]
            rw [l2] at e2
            clear l1 l2 hs
            go_wp2_with fail
            refine (implLetsCall_calls b (t + 1) _).mono ?_
            rintro e w5 ⟨rfl, hb5⟩
            have s5 := hb5.size
            try simp at s5
            have B5 : Below w.heap.size w w5 := Below.trans (by go_grown) (hb5.mono (by first | omega | (simp; done) | (simp; omega)))
            have z5 := B5.size
            obtain ⟨hc5, hf5⟩ := bcell hb5
            have y5_0 : w1.heap.size < w5.heap.size := by omega
            rw [e2]
            clear e2
            go_wp2
            go_ret
            exact ⟨rfl, B5⟩
          · have l1 : letsB b t = false := by simp [letsB, hs, hr]
            rw [l1]
            clear l1 hs e2
            go_wp2
            go_ret
            exact ⟨ret_bool (by simp; omega), B4⟩
        · skip
          have k0 : (b.state == 0) = false := by simp [hs]
          have n0 : (b.state != 0) = true := by simp [hs]
          have k1 : (b.state == 1) = false := by simp [hs]
          have n1 : (b.state != 1) = true := by simp [hs]
          have k2 : (b.state == 2) = true := by simp [hs]
          have n2 : (b.state != 2) = false := by simp [hs]
          have l1 : letsB b t = false := by simp [letsB, hs]
          rw [l1]
          clear l1 hs e2
          go_wp2
          go_ret
          exact ⟨rfl, B4⟩
      · by_cases hi1 : t < b.since
        · skip
          go_wp2_with fail
          refine (specLetsCall_calls b t _).mono ?_
          rintro e w5 ⟨rfl, hb5⟩
          have s5 := hb5.size
          try simp at s5
          have B5 : Below w.heap.size w w5 := Below.trans (by go_grown) (hb5.mono (by first | omega | (simp; done) | (simp; omega)))
          have z5 := B5.size
          obtain ⟨hc5, hf5⟩ := bcell hb5
          have y5_0 : w1.heap.size < w5.heap.size := by omega
          go_wp2
          go_ret
          exact ⟨ret_bool (by simp), B5⟩
        · have hi2 : 1000 ≤ t := by omega
          go_wp2_with fail
          refine (specLetsCall_calls b t _).mono ?_
          rintro e w5 ⟨rfl, hb5⟩
          have s5 := hb5.size
          try simp at s5
          have B5 : Below w.heap.size w w5 := Below.trans (by go_grown) (hb5.mono (by first | omega | (simp; done) | (simp; omega)))
          have z5 := B5.size
          obtain ⟨hc5, hf5⟩ := bcell hb5
          have y5_0 : w1.heap.size < w5.heap.size := by omega
          go_wp2
          go_ret
          exact ⟨ret_bool (by simp), B5⟩
end Go.Proofs.Ytcgnaokpdlbhbaa
