/- LetsCall, BeginCall, EndCall of program and reference; the exact laws' helpers. -/
import Derived.Test.YtcgnaokpdlbhbaaBreaker2
namespace Go.Proofs.Ytcgnaokpdlbhbaa
open Go.ChangeShapes Go.WideShapes Go.ChangeAt Go.RowKit
set_option linter.unusedVariables false

theorem timed_facts {b : Bk} {now : Int} (h : timedB b now = true) : vB b = true ∧ inB b.since 1000 now = true ∧ -1000000 ≤ now - b.since ∧ now - b.since ≤ 1000000 ∧ b.since ≤ now ∧ now ≤ 1000 := by
  unfold timedB at h
  simp only [Bool.and_eq_true] at h
  have h1 := vB_facts h.1
  have h2 := inB_yes h.2
  exact ⟨h.1, h.2, by omega⟩

theorem implLetsCall_calls (b : Bk) (now : Int) (w : World) : Calls Try.prog 23 #[.agg #[.int .i64 b.limit, .int .i64 b.rest, .int .i64 b.state, .int .i64 b.fails, .int .i64 b.since], .int .i64 now] w fun e w' => e = .returned (.bool (callB b now)) ∧ Below w.heap.size w w' := by
  unfold callB
  cases h1 : timedB b now
  · go_enter Try.func23, Try.ntmps23
    go_wp2_with fail
    refine (timed_calls b now _).mono ?_
    rintro e w1 ⟨rfl, hb⟩
    have hB : Below w.heap.size w w1 := Below.trans (by go_grown) (hb.mono (by first | omega | (simp; done) | (simp; omega)))
    rw [h1]
    go_wp2
    go_ret
    exact ⟨rfl, hB⟩
  · have hf := timed_facts h1
    have hlo : -4611686018427387904 ≤ now - b.since ∧ now - b.since ≤ 4611686018427387904 := by omega
    clear hf
    generalize hl : letsB b now = l
    have C : ∀ w, Calls Try.prog 51 #[.agg #[.int .i64 b.limit, .int .i64 b.rest, .int .i64 b.state, .int .i64 b.fails, .int .i64 b.since], .int .i64 now] w fun e w' => e = .returned (.bool l) ∧ Below w.heap.size w w' := by rw [← hl]; exact fun w => implLets_calls b now w hlo
    have C := Lib.hid C
    clear hl hlo
    cases l
    all_goals
      go_enter Try.func23, Try.ntmps23
      go_wp2_with fail
      refine (timed_calls b now _).mono ?_
      rintro e w1 ⟨rfl, hb⟩
      have hB : Below w.heap.size w w1 := Below.trans (by go_grown) (hb.mono (by first | omega | (simp; done) | (simp; omega)))
      obtain ⟨hc, hf⟩ := bcell hb
      rw [h1]
      go_wp2_with fail
      refine (C.out _).mono ?_
      rintro e w2 ⟨rfl, hb2⟩
      go_wp2
      go_ret
      exact ⟨rfl, hB.trans (hb2.mono hB.size)⟩

theorem specLetsCall_calls (b : Bk) (now : Int) (w : World) : Calls Try.prog 22 #[.agg #[.int .i64 b.limit, .int .i64 b.rest, .int .i64 b.state, .int .i64 b.fails, .int .i64 b.since], .int .i64 now] w fun e w' => e = .returned (.bool (callB b now)) ∧ Below w.heap.size w w' := by
  unfold callB timedB
  rcases chain2 (vB b) (inB b.since 1000 now) with h1 | ⟨h1, h2⟩ | ⟨h1, h2⟩
  case inr.inr =>
    have hf := timed_facts (b := b) (now := now) (by simp [timedB, h1, h2])
    have hlo : -4611686018427387904 ≤ now - b.since ∧ now - b.since ≤ 4611686018427387904 := by omega
    clear hf
    generalize hl : letsB b now = l
    have C : ∀ w, Calls Try.prog 49 #[.agg #[.int .i64 b.limit, .int .i64 b.rest, .int .i64 b.state, .int .i64 b.fails, .int .i64 b.since], .int .i64 now] w fun e w' => e = .returned (.bool l) ∧ Below w.heap.size w w' := by rw [← hl]; exact fun w => specLets_calls b now w hlo
    have C := Lib.hid C
    clear hl hlo
    rw [h1, h2]
    cases l
    all_goals
      go_enter Try.func22, Try.ntmps22
      go_wp2_with fail
      refine (specvalidBreaker_calls b _).mono ?_
      rintro e w1 ⟨rfl, hb⟩
      have hB : Below w.heap.size w w1 := Below.trans (by go_grown) (hb.mono (by first | omega | (simp; done) | (simp; omega)))
      obtain ⟨hc, hf⟩ := bcell hb
      rw [h1]
      go_wp2_with (go_at_call 48; refine (inRange_calls _ _ _ _).mono ?_; rintro e w' ⟨rfl, rfl⟩)
      refine (C.out _).mono ?_
      rintro e w2 ⟨rfl, hb2⟩
      go_wp2
      go_ret
      exact ⟨rfl, hB.trans (hb2.mono hB.size)⟩
  all_goals
    go_enter Try.func22, Try.ntmps22
    go_wp2_with fail
    refine (specvalidBreaker_calls b _).mono ?_
    rintro e w1 ⟨rfl, hb⟩
    have hB : Below w.heap.size w w1 := Below.trans (by go_grown) (hb.mono (by first | omega | (simp; done) | (simp; omega)))
    obtain ⟨hc, hf⟩ := bcell hb
    rw [h1]
    go_wp2_with (go_at_call 48; refine (inRange_calls _ _ _ _).mono ?_; rintro e w' ⟨rfl, rfl⟩)
    go_ret
    exact ⟨ret_bool (by simp [*]), hB⟩

def zeroB : Bk := ⟨0, 0, 0, 0, 0⟩
def beginCallB (b : Bk) (now : Int) : Bk := if callB b now then beginB b now else zeroB
def endCallB (b : Bk) (good : Bool) (now : Int) : Bk := if timedB b now then endB b good now else zeroB

theorem implBeginCall_calls (b : Bk) (now : Int) (w : World) : Calls Try.prog 27 #[.agg #[.int .i64 b.limit, .int .i64 b.rest, .int .i64 b.state, .int .i64 b.fails, .int .i64 b.since], .int .i64 now] w (RetBk2 w (beginCallB b now) (callB b now)) := by
  cases h1 : callB b now
  · have e : beginCallB b now = zeroB := by simp [beginCallB, h1]
    rw [e]; clear e
    go_enter Try.func27, Try.ntmps27
    go_wp2_with fail
    refine (implLetsCall_calls b now _).mono ?_
    rintro e w1 ⟨rfl, hb⟩
    have hB : Below w.heap.size w w1 := Below.trans (by go_grown) (hb.mono (by first | omega | (simp; done) | (simp; omega)))
    obtain ⟨hc, hf⟩ := bcell hb
    rw [h1]
    go_wp2
    refine bodyPost_ret (v := .tuple #[.agg #[.int .i64 zeroB.limit, .int .i64 zeroB.rest, .int .i64 zeroB.state, .int .i64 zeroB.fails, .int .i64 zeroB.since], .bool false]) (by simp [results, Try.results27, go_sem, hc, zeroB]) rfl ?_
    exact ⟨rfl, by go_grown⟩
  · have e : beginCallB b now = beginB b now := by simp [beginCallB, h1]
    rw [e]; clear e
    go_enter Try.func27, Try.ntmps27
    go_wp2_with fail
    refine (implLetsCall_calls b now _).mono ?_
    rintro e w1 ⟨rfl, hb⟩
    have hB : Below w.heap.size w w1 := Below.trans (by go_grown) (hb.mono (by first | omega | (simp; done) | (simp; omega)))
    obtain ⟨hc, hf⟩ := bcell hb
    have hz : w.heap.size + 1 < w1.heap.size := by have := hb.size; simp at this; omega
    have hz0 : w.heap.size < w1.heap.size := by omega
    rw [h1]
    go_wp2_with fail
    refine (implBegin_calls b now _).mono ?_
    rintro e w2 ⟨rfl, hb2⟩
    have hB2 := hB.trans (hb2.mono hB.size)
    obtain ⟨hc2, hf2⟩ := bcell hb2
    go_wp2
    refine bodyPost_ret (v := .tuple #[.agg #[.int .i64 ((beginB b now)).limit, .int .i64 ((beginB b now)).rest, .int .i64 ((beginB b now)).state, .int .i64 ((beginB b now)).fails, .int .i64 ((beginB b now)).since], .bool true]) (by simp [results, Try.results27, go_sem, hc, hc2, hz]) rfl ?_
    exact ⟨rfl, by go_grown⟩

theorem specBeginCall_calls (b : Bk) (now : Int) (w : World) : Calls Try.prog 26 #[.agg #[.int .i64 b.limit, .int .i64 b.rest, .int .i64 b.state, .int .i64 b.fails, .int .i64 b.since], .int .i64 now] w (RetBk2 w (beginCallB b now) (callB b now)) := by
  rcases chain2 (vB b) (inB b.since 1000 now) with h1 | ⟨h1, h2⟩ | ⟨h1, h2⟩
  case inr.inr =>
    have ht : timedB b now = true := by simp [timedB, h1, h2]
    have hf := timed_facts ht
    have hv := vB_facts h1
    have hlo : -4611686018427387904 ≤ now - b.since ∧ now - b.since ≤ 4611686018427387904 := by omega
    have hfs : b.fails = 0 ∨ b.state = 0 := by omega
    have Bg := Lib.hid (specBegin_calls b now · hfs)
    clear hf hv hfs
    have hcl : callB b now = letsB b now := by simp [callB, ht]
    have C : ∀ w, Calls Try.prog 49 #[.agg #[.int .i64 b.limit, .int .i64 b.rest, .int .i64 b.state, .int .i64 b.fails, .int .i64 b.since], .int .i64 now] w fun e w' => e = .returned (.bool (callB b now)) ∧ Below w.heap.size w w' := by rw [hcl]; exact fun w => specLets_calls b now w hlo
    have C := Lib.hid C
    clear hcl hlo ht
    cases h3 : callB b now
    · have e : beginCallB b now = zeroB := by simp [beginCallB, h3]
      rw [e]; clear e
      rw [h3] at C
      go_enter Try.func26, Try.ntmps26
      go_wp2_with fail
      refine (specvalidBreaker_calls b _).mono ?_
      rintro e w1 ⟨rfl, hb⟩
      have hB : Below w.heap.size w w1 := Below.trans (by go_grown) (hb.mono (by first | omega | (simp; done) | (simp; omega)))
      obtain ⟨hc, hf⟩ := bcell hb
      have hz : w.heap.size + 1 < w1.heap.size := by have := hb.size; simp at this; omega
      have hz0 : w.heap.size < w1.heap.size := by omega
      rw [h1]
      go_wp2_with (go_at_call 48; refine (inRange_calls _ _ _ _).mono ?_; rintro e w' ⟨rfl, rfl⟩)
      refine (C.out _).mono ?_
      rintro e w2 ⟨rfl, hb2⟩
      have hB2 := hB.trans (hb2.mono hB.size)
      obtain ⟨hc2, hf2⟩ := bcell hb2
      go_wp2
      refine bodyPost_ret (v := .tuple #[.agg #[.int .i64 zeroB.limit, .int .i64 zeroB.rest, .int .i64 zeroB.state, .int .i64 zeroB.fails, .int .i64 zeroB.since], .bool false]) (by simp [results, Try.results26, go_sem, hc, hc2, hz, zeroB]) rfl ?_
      exact ⟨rfl, by go_grown⟩
    · have e : beginCallB b now = beginB b now := by simp [beginCallB, h3]
      rw [e]; clear e
      rw [h3] at C
      go_enter Try.func26, Try.ntmps26
      go_wp2_with fail
      refine (specvalidBreaker_calls b _).mono ?_
      rintro e w1 ⟨rfl, hb⟩
      have hB : Below w.heap.size w w1 := Below.trans (by go_grown) (hb.mono (by first | omega | (simp; done) | (simp; omega)))
      obtain ⟨hc, hf⟩ := bcell hb
      have hz : w.heap.size + 1 < w1.heap.size := by have := hb.size; simp at this; omega
      have hz0 : w.heap.size < w1.heap.size := by omega
      rw [h1]
      go_wp2_with (go_at_call 48; refine (inRange_calls _ _ _ _).mono ?_; rintro e w' ⟨rfl, rfl⟩)
      refine (C.out _).mono ?_
      rintro e w2 ⟨rfl, hb2⟩
      have hB2 := hB.trans (hb2.mono hB.size)
      obtain ⟨hc2, hf2⟩ := bcell hb2
      have hz2 : w.heap.size + 1 < w2.heap.size := by have := hb2.size; omega
      go_wp2_with fail
      refine (Bg.out _).mono ?_
      rintro e w3 ⟨rfl, hb3⟩
      have hB3 := hB2.trans (hb3.mono hB2.size)
      obtain ⟨hc3, hf3⟩ := bcell hb3
      go_wp2
      refine bodyPost_ret (v := .tuple #[.agg #[.int .i64 ((beginB b now)).limit, .int .i64 ((beginB b now)).rest, .int .i64 ((beginB b now)).state, .int .i64 ((beginB b now)).fails, .int .i64 ((beginB b now)).since], .bool true]) (by simp [results, Try.results26, go_sem, hc, hc2, hc3, hz, hz2]) rfl ?_
      exact ⟨rfl, by go_grown⟩
  all_goals
    have hcl : callB b now = false := by simp [callB, timedB, *]
    have e : beginCallB b now = zeroB := by simp [beginCallB, hcl]
    rw [e, hcl]; clear e hcl
    go_enter Try.func26, Try.ntmps26
    go_wp2_with fail
    refine (specvalidBreaker_calls b _).mono ?_
    rintro e w1 ⟨rfl, hb⟩
    have hB : Below w.heap.size w w1 := Below.trans (by go_grown) (hb.mono (by first | omega | (simp; done) | (simp; omega)))
    obtain ⟨hc, hf⟩ := bcell hb
    have hz : w.heap.size + 1 < w1.heap.size := by have := hb.size; simp at this; omega
    have hz0 : w.heap.size < w1.heap.size := by omega
    rw [h1]
    go_wp2_with (go_at_call 48; refine (inRange_calls _ _ _ _).mono ?_; rintro e w' ⟨rfl, rfl⟩)
    refine bodyPost_ret (v := .tuple #[.agg #[.int .i64 zeroB.limit, .int .i64 zeroB.rest, .int .i64 zeroB.state, .int .i64 zeroB.fails, .int .i64 zeroB.since], .bool false]) (by simp [results, Try.results26, go_sem, hc, zeroB]) rfl ?_
    exact ⟨rfl, by go_grown⟩

theorem implEndCall_calls (b : Bk) (good : Bool) (now : Int) (w : World) : Calls Try.prog 30 #[.agg #[.int .i64 b.limit, .int .i64 b.rest, .int .i64 b.state, .int .i64 b.fails, .int .i64 b.since], .bool good, .int .i64 now] w (RetBk2 w (endCallB b good now) (timedB b now)) := by
  cases h1 : timedB b now
  · have e : endCallB b good now = zeroB := by simp [endCallB, h1]
    rw [e]; clear e
    go_enter Try.func30, Try.ntmps30
    go_wp2_with fail
    refine (timed_calls b now _).mono ?_
    rintro e w1 ⟨rfl, hb⟩
    have hB : Below w.heap.size w w1 := Below.trans (by go_grown) (hb.mono (by first | omega | (simp; done) | (simp; omega)))
    obtain ⟨hc, hf⟩ := bcell hb
    rw [h1]
    go_wp2
    refine bodyPost_ret (v := .tuple #[.agg #[.int .i64 zeroB.limit, .int .i64 zeroB.rest, .int .i64 zeroB.state, .int .i64 zeroB.fails, .int .i64 zeroB.since], .bool false]) (by simp [results, Try.results30, go_sem, hc, zeroB]) rfl ?_
    exact ⟨rfl, by go_grown⟩
  · have e : endCallB b good now = endB b good now := by simp [endCallB, h1]
    rw [e]; clear e
    have hv := vB_facts (timed_facts h1).1
    have En := Lib.hid (implEnd_calls b good now · (by omega))
    clear hv
    go_enter Try.func30, Try.ntmps30
    go_wp2_with fail
    refine (timed_calls b now _).mono ?_
    rintro e w1 ⟨rfl, hb⟩
    have hB : Below w.heap.size w w1 := Below.trans (by go_grown) (hb.mono (by first | omega | (simp; done) | (simp; omega)))
    obtain ⟨hc, hf⟩ := bcell hb
    have hz : w.heap.size + 1 < w1.heap.size := by have := hb.size; simp at this; omega
    have hz0 : w.heap.size < w1.heap.size := by omega
    rw [h1]
    go_wp2_with fail
    refine (En.out _).mono ?_
    rintro e w2 ⟨rfl, hb2⟩
    have hB2 := hB.trans (hb2.mono hB.size)
    obtain ⟨hc2, hf2⟩ := bcell hb2
    go_wp2
    refine bodyPost_ret (v := .tuple #[.agg #[.int .i64 ((endB b good now)).limit, .int .i64 ((endB b good now)).rest, .int .i64 ((endB b good now)).state, .int .i64 ((endB b good now)).fails, .int .i64 ((endB b good now)).since], .bool true]) (by simp [results, Try.results30, go_sem, hc, hc2, hz]) rfl ?_
    exact ⟨rfl, by go_grown⟩

theorem specEndCall_calls (b : Bk) (good : Bool) (now : Int) (w : World) : Calls Try.prog 29 #[.agg #[.int .i64 b.limit, .int .i64 b.rest, .int .i64 b.state, .int .i64 b.fails, .int .i64 b.since], .bool good, .int .i64 now] w (RetBk2 w (endCallB b good now) (timedB b now)) := by
  rcases chain2 (vB b) (inB b.since 1000 now) with h1 | ⟨h1, h2⟩ | ⟨h1, h2⟩
  case inr.inr =>
    have ht : timedB b now = true := by simp [timedB, h1, h2]
    have e : endCallB b good now = endB b good now := by simp [endCallB, ht]
    rw [e, ht]; clear e ht
    have hv := vB_facts h1
    have En := Lib.hid (specEnd_calls b good now · (by omega))
    clear hv
    go_enter Try.func29, Try.ntmps29
    go_wp2_with fail
    refine (specvalidBreaker_calls b _).mono ?_
    rintro e w1 ⟨rfl, hb⟩
    have hB : Below w.heap.size w w1 := Below.trans (by go_grown) (hb.mono (by first | omega | (simp; done) | (simp; omega)))
    obtain ⟨hc, hf⟩ := bcell hb
    have hz : w.heap.size + 1 < w1.heap.size := by have := hb.size; simp at this; omega
    have hz0 : w.heap.size < w1.heap.size := by omega
    rw [h1]
    go_wp2_with (go_at_call 48; refine (inRange_calls _ _ _ _).mono ?_; rintro e w' ⟨rfl, rfl⟩)
    refine (En.out _).mono ?_
    rintro e w2 ⟨rfl, hb2⟩
    have hB2 := hB.trans (hb2.mono hB.size)
    obtain ⟨hc2, hf2⟩ := bcell hb2
    go_wp2
    refine bodyPost_ret (v := .tuple #[.agg #[.int .i64 ((endB b good now)).limit, .int .i64 ((endB b good now)).rest, .int .i64 ((endB b good now)).state, .int .i64 ((endB b good now)).fails, .int .i64 ((endB b good now)).since], .bool true]) (by simp [results, Try.results29, go_sem, hc, hc2, hz]) rfl ?_
    exact ⟨rfl, by go_grown⟩
  all_goals
    have hcl : timedB b now = false := by simp [timedB, *]
    have e : endCallB b good now = zeroB := by simp [endCallB, hcl]
    rw [e, hcl]; clear e hcl
    go_enter Try.func29, Try.ntmps29
    go_wp2_with fail
    refine (specvalidBreaker_calls b _).mono ?_
    rintro e w1 ⟨rfl, hb⟩
    have hB : Below w.heap.size w w1 := Below.trans (by go_grown) (hb.mono (by first | omega | (simp; done) | (simp; omega)))
    obtain ⟨hc, hf⟩ := bcell hb
    rw [h1]
    go_wp2_with (go_at_call 48; refine (inRange_calls _ _ _ _).mono ?_; rintro e w' ⟨rfl, rfl⟩)
    refine bodyPost_ret (v := .tuple #[.agg #[.int .i64 zeroB.limit, .int .i64 zeroB.rest, .int .i64 zeroB.state, .int .i64 zeroB.fails, .int .i64 zeroB.since], .bool false]) (by simp [results, Try.results29, go_sem, hc, zeroB]) rfl ?_
    exact ⟨rfl, by go_grown⟩

theorem toBreaker_calls (b : Bk) (w : World) : Calls Try.prog 20 #[.agg #[.int .i64 b.limit, .int .i64 b.rest, .int .i64 b.state, .int .i64 b.fails, .int .i64 b.since]] w (RetBk w b) := by
  go_enter Try.func20, Try.ntmps20
  go_wp2
  go_returns
  exact ⟨rfl, by go_grown⟩
theorem eqBreaker_calls (b : Bk) (w : World) : Calls Try.prog 28 #[.agg #[.int .i64 b.limit, .int .i64 b.rest, .int .i64 b.state, .int .i64 b.fails, .int .i64 b.since], .agg #[.int .i64 b.limit, .int .i64 b.rest, .int .i64 b.state, .int .i64 b.fails, .int .i64 b.since]] w (SaysTrue w) := by
  go_enter Try.func28, Try.ntmps28
  go_wp2
  go_ret
  exact ⟨rfl, by go_grown⟩
end Go.Proofs.Ytcgnaokpdlbhbaa
