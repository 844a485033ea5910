/- Breakers: turn, begin, end; LetsCall, BeginCall, EndCall of program and reference. -/
import Derived.Test.YtcgnaokpdlbhbaaBreaker
namespace Go.Proofs.Ytcgnaokpdlbhbaa
open Go.ChangeShapes Go.WideShapes Go.ChangeAt Go.RowKit
set_option linter.unusedVariables false

def RetBk (w : World) (b : Bk) (e : Ending) (w' : World) : Prop := e = .returned (.agg #[.int .i64 b.limit, .int .i64 b.rest, .int .i64 b.state, .int .i64 b.fails, .int .i64 b.since]) ∧ Below w.heap.size w w'
def RetBk2 (w : World) (b : Bk) (ok : Bool) (e : Ending) (w' : World) : Prop := e = .returned (.tuple #[.agg #[.int .i64 b.limit, .int .i64 b.rest, .int .i64 b.state, .int .i64 b.fails, .int .i64 b.since], .bool ok]) ∧ Below w.heap.size w w'

theorem turn_calls (b : Bk) (s now : Int) (w : World) : Calls Try.prog 63 #[.agg #[.int .i64 b.limit, .int .i64 b.rest, .int .i64 b.state, .int .i64 b.fails, .int .i64 b.since], .int .i64 s, .int .i64 now] w (RetBk w (turnB b s now)) := by
  go_enter Try.func63, Try.ntmps63
  go_wp2
  go_returns
  exact ⟨rfl, by go_grown⟩

theorem implBegin_calls (b : Bk) (now : Int) (w : World) : Calls Try.prog 56 #[.agg #[.int .i64 b.limit, .int .i64 b.rest, .int .i64 b.state, .int .i64 b.fails, .int .i64 b.since], .int .i64 now] w (RetBk w (beginB b now)) := by
  cases h1 : b.state == 1
  · have e : beginB b now = b := by simp at h1; simp [beginB, h1]
    rw [e]; clear e
    go_enter Try.func56, Try.ntmps56
    go_wp2
    go_returns
    exact ⟨rfl, by go_grown⟩
  · have e : beginB b now = turnB b 2 now := by simp at h1; simp [beginB, h1]
    rw [e]; clear e
    go_enter Try.func56, Try.ntmps56
    go_wp2_with fail
    refine (turn_calls b 2 now _).mono ?_
    rintro e w1 ⟨rfl, hb⟩
    obtain ⟨hc, hf⟩ := bcell hb
    have hB : Below w.heap.size w w1 := Below.trans (by go_grown) (hb.mono (by first | omega | (simp; done) | (simp; omega)))
    go_wp2
    refine bodyPost_ret (v := .agg #[.int .i64 ((turnB b 2 now)).limit, .int .i64 ((turnB b 2 now)).rest, .int .i64 ((turnB b 2 now)).state, .int .i64 ((turnB b 2 now)).fails, .int .i64 ((turnB b 2 now)).since]) (by simp [results, Try.results56, go_sem, hc]) rfl ?_
    exact ⟨rfl, by go_grown⟩

theorem specBegin_calls (b : Bk) (now : Int) (w : World) (hv : b.fails = 0 ∨ b.state = 0) : Calls Try.prog 55 #[.agg #[.int .i64 b.limit, .int .i64 b.rest, .int .i64 b.state, .int .i64 b.fails, .int .i64 b.since], .int .i64 now] w (RetBk w (beginB b now)) := by
  cases h1 : b.state == 1
  · have e : beginB b now = b := by simp at h1; simp [beginB, h1]
    rw [e]; clear e hv
    go_enter Try.func55, Try.ntmps55
    go_wp2
    go_returns
    exact ⟨rfl, by go_grown⟩
  · have e : beginB b now = ⟨b.limit, b.rest, 2, b.fails, now⟩ := by
      simp at h1
      have hf : b.fails = 0 := by omega
      simp [beginB, h1, turnB, hf]
    rw [e]; clear e hv
    go_enter Try.func55, Try.ntmps55
    go_wp2
    go_returns
    exact ⟨rfl, by go_grown⟩

theorem implEnd_calls (b : Bk) (good : Bool) (now : Int) (w : World) (hf : -1000000 ≤ b.fails ∧ b.fails ≤ 1000000) : Calls Try.prog 58 #[.agg #[.int .i64 b.limit, .int .i64 b.rest, .int .i64 b.state, .int .i64 b.fails, .int .i64 b.since], .bool good, .int .i64 now] w (RetBk w (endB b good now)) := by
  cases h1 : b.state == 1
  case true =>
    have e : endB b good now = b := by simp at h1; simp [endB, h1]
    rw [e]; clear e
    go_enter Try.func58, Try.ntmps58
    go_wp2
    go_returns
    exact ⟨rfl, by go_grown⟩
  case false =>
    cases h2 : b.state == 2
    case true =>
      cases good
      · have e : endB b false now = turnB b 1 now := by simp at h1 h2; simp [endB, h2]
        rw [e]; clear e
        go_enter Try.func58, Try.ntmps58
        go_wp2_with fail
        refine (turn_calls b 1 now _).mono ?_
        rintro e w1 ⟨rfl, hb⟩
        obtain ⟨hc, hf⟩ := bcell hb
        have hB : Below w.heap.size w w1 := Below.trans (by go_grown) (hb.mono (by first | omega | (simp; done) | (simp; omega)))
        go_wp2
        refine bodyPost_ret (v := .agg #[.int .i64 ((turnB b 1 now)).limit, .int .i64 ((turnB b 1 now)).rest, .int .i64 ((turnB b 1 now)).state, .int .i64 ((turnB b 1 now)).fails, .int .i64 ((turnB b 1 now)).since]) (by simp [results, Try.results58, go_sem, hc]) rfl ?_
        exact ⟨rfl, by go_grown⟩
      · have e : endB b true now = turnB b 0 now := by simp at h1 h2; simp [endB, h2]
        rw [e]; clear e
        go_enter Try.func58, Try.ntmps58
        go_wp2_with fail
        refine (turn_calls b 0 now _).mono ?_
        rintro e w1 ⟨rfl, hb⟩
        obtain ⟨hc, hf⟩ := bcell hb
        have hB : Below w.heap.size w w1 := Below.trans (by go_grown) (hb.mono (by first | omega | (simp; done) | (simp; omega)))
        go_wp2
        refine bodyPost_ret (v := .agg #[.int .i64 ((turnB b 0 now)).limit, .int .i64 ((turnB b 0 now)).rest, .int .i64 ((turnB b 0 now)).state, .int .i64 ((turnB b 0 now)).fails, .int .i64 ((turnB b 0 now)).since]) (by simp [results, Try.results58, go_sem, hc]) rfl ?_
        exact ⟨rfl, by go_grown⟩
    case false =>
      cases good
      · cases h3 : b.fails + 1 == b.limit
        · have e : endB b false now = ⟨b.limit, b.rest, b.state, b.fails + 1, b.since⟩ := by simp at h1 h2 h3; simp [endB, h1, h2, h3]
          rw [e]; clear e
          go_enter Try.func58, Try.ntmps58
          go_wp2
          go_returns
          exact ⟨rfl, by go_grown⟩
        · have e : endB b false now = turnB b 1 now := by simp at h1 h2 h3; simp [endB, h1, h2, h3]
          rw [e]; clear e
          go_enter Try.func58, Try.ntmps58
          go_wp2_with fail
          refine (turn_calls b 1 now _).mono ?_
          rintro e w1 ⟨rfl, hb⟩
          obtain ⟨hc, hf⟩ := bcell hb
          have hB : Below w.heap.size w w1 := Below.trans (by go_grown) (hb.mono (by first | omega | (simp; done) | (simp; omega)))
          go_wp2
          refine bodyPost_ret (v := .agg #[.int .i64 ((turnB b 1 now)).limit, .int .i64 ((turnB b 1 now)).rest, .int .i64 ((turnB b 1 now)).state, .int .i64 ((turnB b 1 now)).fails, .int .i64 ((turnB b 1 now)).since]) (by simp [results, Try.results58, go_sem, hc]) rfl ?_
          exact ⟨rfl, by go_grown⟩
      · have e : endB b true now = ⟨b.limit, b.rest, b.state, 0, b.since⟩ := by simp at h1 h2; simp [endB, h1, h2]
        rw [e]; clear e
        go_enter Try.func58, Try.ntmps58
        go_wp2
        go_returns
        exact ⟨rfl, by go_grown⟩

theorem specEnd_calls (b : Bk) (good : Bool) (now : Int) (w : World) (hf : -1000000 ≤ b.fails ∧ b.fails ≤ 1000000) : Calls Try.prog 57 #[.agg #[.int .i64 b.limit, .int .i64 b.rest, .int .i64 b.state, .int .i64 b.fails, .int .i64 b.since], .bool good, .int .i64 now] w (RetBk w (endB b good now)) := by
  cases h1 : b.state == 1
  case true =>
    have e : endB b good now = b := by simp at h1; simp [endB, h1]
    rw [e]; clear e
    go_enter Try.func57, Try.ntmps57
    go_wp2
    go_returns
    exact ⟨rfl, by go_grown⟩
  case false =>
    cases h2 : b.state == 2
    case true =>
      cases good
      · have e : endB b false now = turnB b 1 now := by simp at h1 h2; simp [endB, h2]
        rw [e]; clear e
        go_enter Try.func57, Try.ntmps57
        go_wp2
        go_returns
        exact ⟨rfl, by go_grown⟩
      · have e : endB b true now = turnB b 0 now := by simp at h1 h2; simp [endB, h2]
        rw [e]; clear e
        go_enter Try.func57, Try.ntmps57
        go_wp2
        go_returns
        exact ⟨rfl, by go_grown⟩
    case false =>
      cases good
      · cases h3 : b.fails + 1 == b.limit
        · have e : endB b false now = ⟨b.limit, b.rest, b.state, b.fails + 1, b.since⟩ := by simp at h1 h2 h3; simp [endB, h1, h2, h3]
          rw [e]; clear e
          go_enter Try.func57, Try.ntmps57
          go_wp2
          go_returns
          exact ⟨rfl, by go_grown⟩
        · have e : endB b false now = turnB b 1 now := by simp at h1 h2 h3; simp [endB, h1, h2, h3]
          rw [e]; clear e
          go_enter Try.func57, Try.ntmps57
          go_wp2
          go_returns
          exact ⟨rfl, by go_grown⟩
      · have e : endB b true now = ⟨b.limit, b.rest, b.state, 0, b.since⟩ := by simp at h1 h2; simp [endB, h1, h2]
        rw [e]; clear e
        go_enter Try.func57, Try.ntmps57
        go_wp2
        go_returns
        exact ⟨rfl, by go_grown⟩
end Go.Proofs.Ytcgnaokpdlbhbaa
