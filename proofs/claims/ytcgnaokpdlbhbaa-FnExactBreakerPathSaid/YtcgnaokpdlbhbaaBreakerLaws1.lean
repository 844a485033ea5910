/- The exact laws on ValidBreaker, LetsCall, BeginCall, EndCall: their walks. An argument that is a breaker, as the walks read it. -/
import Derived.Test.YtcgnaokpdlbhbaaBreaker3
import Derived.Lib.SmallJoins
namespace Go.Proofs.Ytcgnaokpdlbhbaa
open Go.ChangeShapes Go.WideShapes Go.ChangeAt Go.RowKit Go.Joins Go.Deep
set_option linter.unusedVariables false
section
variable {H : Type} {enc : TypeId × Value → H} {P : Program} {w : World} {base : Nat} {spare : Nat → Bool} {held : Bool}
theorem open_agg5 {r : Reach} {b0 : Nat} {t : TypeId} {f0 f1 f2 f3 f4 : Field} {v : Value} {d : DataW H} {p : List MemPlace} (hs : P.underlying t = some (.struct #[f0, f1, f2, f3, f4])) (hone : oneCellFields P #[f0, f1, f2, f3, f4] = true) (hC : P.cellsOf t = 5)
    (hv : Value.okWide P w r b0 t v) (h : DataW.Trod enc P w base spare held t v d p) :
    ∃ (v0 v1 v2 v3 v4 : Value) (y0 y1 y2 y3 y4 : DataW H × List MemPlace) (n : Nat), v = .agg #[v0, v1, v2, v3, v4] ∧
      DataW.trod enc P w base spare held n f0.type [v0] = some y0 ∧ DataW.trod enc P w base spare held n f1.type [v1] = some y1 ∧ DataW.trod enc P w base spare held n f2.type [v2] = some y2 ∧ DataW.trod enc P w base spare held n f3.type [v3] = some y3 ∧ DataW.trod enc P w base spare held n f4.type [v4] = some y4 := by
  obtain ⟨cs, rfl, hsz⟩ := okWide_struct hs hv
  obtain ⟨l⟩ := cs
  match l, hsz.trans hC with
  | [c0, c1, c2, c3, c4], _ =>
    obtain ⟨fuel, hf⟩ := h
    obtain ⟨xs, n, _, hx, _, hlen, hg⟩ := DataW.trod_struct hs hf
    obtain ⟨o0, k0⟩ := hone_of hone 0 f0 rfl
    obtain ⟨o1, k1⟩ := hone_of hone 1 f1 rfl
    obtain ⟨o2, k2⟩ := hone_of hone 2 f2 rfl
    obtain ⟨o3, k3⟩ := hone_of hone 3 f3 rfl
    obtain ⟨o4, k4⟩ := hone_of hone 4 f4 rfl
    match xs, hlen with
    | [y0, y1, y2, y3, y4], _ =>
      exact ⟨c0, c1, c2, c3, c4, y0, y1, y2, y3, y4, n, rfl, by simpa [Value.cells, o0, k0] using hg 0 f0 rfl, by simpa [Value.cells, o1, k1] using hg 1 f1 rfl, by simpa [Value.cells, o2, k2] using hg 2 f2 rfl, by simpa [Value.cells, o3, k3] using hg 3 f3 rfl, by simpa [Value.cells, o4, k4] using hg 4 f4 rfl⟩
end
section
variable {H : Type} {enc : TypeId × Value → H} {w : World} {base : Nat} {spare : Nat → Bool} {held : Bool}
theorem open_breaker8 {r : Reach} {b0 : Nat} {v : Value} {d : DataW H} {p : List MemPlace} (hv : Value.okWide Try.prog w r b0 23 v) (h : DataW.Trod enc Try.prog w base spare held 23 v d p) : ∃ b : Bk, v = .agg #[.int .i64 b.limit, .int .i64 b.rest, .int .i64 b.state, .int .i64 b.fails, .int .i64 b.since] ∧ True := by
  obtain ⟨v0, v1, v2, v3, v4, y0, y1, y2, y3, y4, n, rfl, h0, h1, h2, h3, h4⟩ := open_agg5 Try.underlying23 (by kernel_rfl) (by kernel_rfl) hv h
  obtain ⟨x0, e0, _⟩ := DataW.trod_int Try.underlying3 h0
  obtain ⟨x1, e1, _⟩ := DataW.trod_int Try.underlying3 h1
  obtain ⟨x2, e2, _⟩ := DataW.trod_int Try.underlying3 h2
  obtain ⟨x3, e3, _⟩ := DataW.trod_int Try.underlying3 h3
  obtain ⟨x4, e4, _⟩ := DataW.trod_int Try.underlying3 h4
  simp at e0 e1 e2 e3 e4
  subst e0 e1 e2 e3 e4
  exact ⟨⟨x0, x1, x2, x3, x4⟩, rfl, trivial⟩
end

theorem fnExactValidBreaker_walk (b : Bk) (w : World) (_h : True) : Calls Try.prog 3 #[.agg #[.int .i64 b.limit, .int .i64 b.rest, .int .i64 b.state, .int .i64 b.fails, .int .i64 b.since]] w (SaysTrue w) := by
  go_enter Try.func3, Try.ntmps3
  go_wp2_with fail
  refine (toBreaker_calls b _).mono ?_
  rintro e w1 ⟨rfl, hb1⟩
  have s1 := hb1.size
  try simp at s1
  have B1 : Below w.heap.size w w1 := Below.trans (by go_grown) (hb1.mono (by first | omega | (simp; done) | (simp; omega)))
  have z1 := B1.size
  obtain ⟨hc1, hf1⟩ := bcell hb1
  have y1_0 : w.heap.size < w1.heap.size := by omega
  go_wp2_with fail
  refine (specValidBreaker_calls b _).mono ?_
  rintro e w2 ⟨rfl, hb2⟩
  have s2 := hb2.size
  try simp at s2
  have B2 : Below w.heap.size w w2 := Below.trans (by go_grown) (hb2.mono (by first | omega | (simp; done) | (simp; omega)))
  have z2 := B2.size
  obtain ⟨hc2, hf2⟩ := bcell hb2
  have y2_0 : w.heap.size < w2.heap.size := by omega
  go_wp2_with fail
  refine (toBreaker_calls b _).mono ?_
  rintro e w3 ⟨rfl, hb3⟩
  have s3 := hb3.size
  try simp at s3
  have B3 : Below w.heap.size w w3 := Below.trans (by go_grown) (hb3.mono (by first | omega | (simp; done) | (simp; omega)))
  have z3 := B3.size
  obtain ⟨hc3, hf3⟩ := bcell hb3
  have y3_0 : w.heap.size < w3.heap.size := by omega
  go_wp2_with fail
  refine (implValidBreaker_calls b _).mono ?_
  rintro e w4 ⟨rfl, hb4⟩
  have s4 := hb4.size
  try simp at s4
  have B4 : Below w.heap.size w w4 := Below.trans (by go_grown) (hb4.mono (by first | omega | (simp; done) | (simp; omega)))
  have z4 := B4.size
  obtain ⟨hc4, hf4⟩ := bcell hb4
  have y4_0 : w.heap.size < w4.heap.size := by omega
  go_wp2
  go_ret
  exact ⟨rfl, B4⟩

theorem fnExactLetsCall_walk (b : Bk) (now : Int) (w : World) (_h : True) (_hn : -9223372036854775808 ≤ now ∧ now ≤ 9223372036854775807) : Calls Try.prog 4 #[.agg #[.int .i64 b.limit, .int .i64 b.rest, .int .i64 b.state, .int .i64 b.fails, .int .i64 b.since], .int .i64 now] w (SaysTrue w) := by
  clear _hn
  go_enter Try.func4, Try.ntmps4
  go_wp2_with fail
  refine (toBreaker_calls b _).mono ?_
  rintro e w1 ⟨rfl, hb1⟩
  have s1 := hb1.size
  try simp at s1
  have B1 : Below w.heap.size w w1 := Below.trans (by go_grown) (hb1.mono (by first | omega | (simp; done) | (simp; omega)))
  have z1 := B1.size
  obtain ⟨hc1, hf1⟩ := bcell hb1
  have y1_0 : w.heap.size < w1.heap.size := by omega
  go_wp2_with fail
  refine (specLetsCall_calls b _ _).mono ?_
  rintro e w2 ⟨rfl, hb2⟩
  have s2 := hb2.size
  try simp at s2
  have B2 : Below w.heap.size w w2 := Below.trans (by go_grown) (hb2.mono (by first | omega | (simp; done) | (simp; omega)))
  have z2 := B2.size
  obtain ⟨hc2, hf2⟩ := bcell hb2
  have y2_0 : w.heap.size < w2.heap.size := by omega
  go_wp2_with fail
  refine (toBreaker_calls b _).mono ?_
  rintro e w3 ⟨rfl, hb3⟩
  have s3 := hb3.size
  try simp at s3
  have B3 : Below w.heap.size w w3 := Below.trans (by go_grown) (hb3.mono (by first | omega | (simp; done) | (simp; omega)))
  have z3 := B3.size
  obtain ⟨hc3, hf3⟩ := bcell hb3
  have y3_0 : w.heap.size < w3.heap.size := by omega
  go_wp2_with fail
  refine (implLetsCall_calls b _ _).mono ?_
  rintro e w4 ⟨rfl, hb4⟩
  have s4 := hb4.size
  try simp at s4
  have B4 : Below w.heap.size w w4 := Below.trans (by go_grown) (hb4.mono (by first | omega | (simp; done) | (simp; omega)))
  have z4 := B4.size
  obtain ⟨hc4, hf4⟩ := bcell hb4
  have y4_0 : w.heap.size < w4.heap.size := by omega
  go_wp2
  go_ret
  exact ⟨rfl, B4⟩

theorem fnExactBeginCall_walk (b : Bk) (now : Int) (w : World) (_h : True) (_hn : -9223372036854775808 ≤ now ∧ now ≤ 9223372036854775807) : Calls Try.prog 7 #[.agg #[.int .i64 b.limit, .int .i64 b.rest, .int .i64 b.state, .int .i64 b.fails, .int .i64 b.since], .int .i64 now] w (SaysTrue w) := by
  clear _hn
  go_enter Try.func7, Try.ntmps7
  go_wp2_with fail
  refine (toBreaker_calls b _).mono ?_
  rintro e w1 ⟨rfl, hb1⟩
  have s1 := hb1.size
  try simp at s1
  have B1 : Below w.heap.size w w1 := Below.trans (by go_grown) (hb1.mono (by first | omega | (simp; done) | (simp; omega)))
  have z1 := B1.size
  obtain ⟨hc1, hf1⟩ := bcell hb1
  have y1_0 : w.heap.size < w1.heap.size := by omega
  go_wp2_with fail
  refine (specBeginCall_calls b _ _).mono ?_
  rintro e w2 ⟨rfl, hb2⟩
  have s2 := hb2.size
  try simp at s2
  have B2 : Below w.heap.size w w2 := Below.trans (by go_grown) (hb2.mono (by first | omega | (simp; done) | (simp; omega)))
  have z2 := B2.size
  obtain ⟨hc2, hf2⟩ := bcell hb2
  have y2_0 : w.heap.size < w2.heap.size := by omega
  go_wp2_with fail
  refine (toBreaker_calls b _).mono ?_
  rintro e w3 ⟨rfl, hb3⟩
  have s3 := hb3.size
  try simp at s3
  have B3 : Below w.heap.size w w3 := Below.trans (by go_grown) (hb3.mono (by first | omega | (simp; done) | (simp; omega)))
  have z3 := B3.size
  obtain ⟨hc3, hf3⟩ := bcell hb3
  have y3_0 : w.heap.size < w3.heap.size := by omega
  have y3_1 : w2.heap.size < w3.heap.size := by omega
  go_wp2_with fail
  refine (implBeginCall_calls b _ _).mono ?_
  rintro e w4 ⟨rfl, hb4⟩
  have s4 := hb4.size
  try simp at s4
  have B4 : Below w.heap.size w w4 := Below.trans (by go_grown) (hb4.mono (by first | omega | (simp; done) | (simp; omega)))
  have z4 := B4.size
  obtain ⟨hc4, hf4⟩ := bcell hb4
  have y4_0 : w.heap.size < w4.heap.size := by omega
  have y4_1 : w2.heap.size < w4.heap.size := by omega
  go_wp2_with fail
  refine (eqBreaker_calls _ _).mono ?_
  rintro e w5 ⟨rfl, hb5⟩
  have s5 := hb5.size
  try simp at s5
  have B5 : Below w.heap.size w w5 := Below.trans (by go_grown) (hb5.mono (by first | omega | (simp; done) | (simp; omega)))
  have z5 := B5.size
  obtain ⟨hc5, hf5⟩ := bcell hb5
  have y5_0 : w.heap.size < w5.heap.size := by omega
  have y5_1 : w2.heap.size < w5.heap.size := by omega
  have y5_2 : w4.heap.size < w5.heap.size := by omega
  go_wp2
  go_ret
  exact ⟨rfl, B5⟩

theorem fnExactEndCall_walk (b : Bk) (good : Bool) (now : Int) (w : World) (_h : True) (_hn : -9223372036854775808 ≤ now ∧ now ≤ 9223372036854775807) : Calls Try.prog 8 #[.agg #[.int .i64 b.limit, .int .i64 b.rest, .int .i64 b.state, .int .i64 b.fails, .int .i64 b.since], .bool good, .int .i64 now] w (SaysTrue w) := by
  clear _hn
  go_enter Try.func8, Try.ntmps8
  go_wp2_with fail
  refine (toBreaker_calls b _).mono ?_
  rintro e w1 ⟨rfl, hb1⟩
  have s1 := hb1.size
  try simp at s1
  have B1 : Below w.heap.size w w1 := Below.trans (by go_grown) (hb1.mono (by first | omega | (simp; done) | (simp; omega)))
  have z1 := B1.size
  obtain ⟨hc1, hf1⟩ := bcell hb1
  have y1_0 : w.heap.size < w1.heap.size := by omega
  go_wp2_with fail
  refine (specEndCall_calls b _ _ _).mono ?_
  rintro e w2 ⟨rfl, hb2⟩
  have s2 := hb2.size
  try simp at s2
  have B2 : Below w.heap.size w w2 := Below.trans (by go_grown) (hb2.mono (by first | omega | (simp; done) | (simp; omega)))
  have z2 := B2.size
  obtain ⟨hc2, hf2⟩ := bcell hb2
  have y2_0 : w.heap.size < w2.heap.size := by omega
  go_wp2_with fail
  refine (toBreaker_calls b _).mono ?_
  rintro e w3 ⟨rfl, hb3⟩
  have s3 := hb3.size
  try simp at s3
  have B3 : Below w.heap.size w w3 := Below.trans (by go_grown) (hb3.mono (by first | omega | (simp; done) | (simp; omega)))
  have z3 := B3.size
  obtain ⟨hc3, hf3⟩ := bcell hb3
  have y3_0 : w.heap.size < w3.heap.size := by omega
  have y3_1 : w2.heap.size < w3.heap.size := by omega
  go_wp2_with fail
  refine (implEndCall_calls b _ _ _).mono ?_
  rintro e w4 ⟨rfl, hb4⟩
  have s4 := hb4.size
  try simp at s4
  have B4 : Below w.heap.size w w4 := Below.trans (by go_grown) (hb4.mono (by first | omega | (simp; done) | (simp; omega)))
  have z4 := B4.size
  obtain ⟨hc4, hf4⟩ := bcell hb4
  have y4_0 : w.heap.size < w4.heap.size := by omega
  have y4_1 : w2.heap.size < w4.heap.size := by omega
  go_wp2_with fail
  refine (eqBreaker_calls _ _).mono ?_
  rintro e w5 ⟨rfl, hb5⟩
  have s5 := hb5.size
  try simp at s5
  have B5 : Below w.heap.size w w5 := Below.trans (by go_grown) (hb5.mono (by first | omega | (simp; done) | (simp; omega)))
  have z5 := B5.size
  obtain ⟨hc5, hf5⟩ := bcell hb5
  have y5_0 : w.heap.size < w5.heap.size := by omega
  have y5_1 : w2.heap.size < w5.heap.size := by omega
  have y5_2 : w4.heap.size < w5.heap.size := by omega
  go_wp2
  go_ret
  exact ⟨rfl, B5⟩
end Go.Proofs.Ytcgnaokpdlbhbaa
