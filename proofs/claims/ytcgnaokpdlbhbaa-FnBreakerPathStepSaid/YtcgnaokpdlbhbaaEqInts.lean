/- The exact laws' comparison of lists of integers. -/
import Derived.Test.YtcgnaokpdlbhbaaInts
import Derived.Deep.QuietTactic
import Derived.BigQuiet
namespace Go.Proofs.Ytcgnaokpdlbhbaa
open Go.ChangeShapes Go.WideShapes Go.ChangeAt Go.RowKit
set_option linter.unusedVariables false

theorem eqIntS_calls (a b : Option Addr) (n c d : Nat) (L : Nat → Int) (w : World) (h : RdI w a n c L) (h' : RdI w b n d L) :
    Calls Try.prog 37 #[.slice a n c, .slice b n d] w (SaysTrue w) := by
  have hlen := h.len
  go_enter Try.func37, Try.ntmps37
  go_wp2
  go_loopw [5] (fun i wr => ∃ k : Nat, k ≤ n ∧ i = .int .i64 k ∧ Below w.heap.size w wr) (fun i _ => n - (intOf i).toNat)
  case atStart => exact ⟨0, Nat.zero_le _, rfl, Below.refl _ _⟩
  case round =>
    obtain ⟨k, hk, rfl, hB⟩ := hrel
    by_cases hlt : k < n
    · obtain ⟨b1, o1, rfl, hb1, hc1⟩ := h.pos (by omega)
      obtain ⟨b2, o2, rfl, hb2, hc2⟩ := h'.pos (by omega)
      have g1 : wr.cell? ⟨b1, o1 + k, none⟩ = some (.int .i64 (L k)) := (hB.cell hb1).trans (hc1 k hlt)
      have g2 : wr.cell? ⟨b2, o2 + k, none⟩ = some (.int .i64 (L k)) := (hB.cell hb2).trans (hc2 k hlt)
      have i0 : (k : Int) < (n : Int) := by omega
      clear hc1 hc2
      go_wp2
      go_quiet (fail)
      go_wp2
      go_roundw
      case rel => exact ⟨k + 1, by omega, by go_num, below_drewN hB _⟩
      case measure => simp [intOf]; omega
    · go_wp2
      go_ret
      exact ⟨rfl, hB⟩
end Go.Proofs.Ytcgnaokpdlbhbaa
