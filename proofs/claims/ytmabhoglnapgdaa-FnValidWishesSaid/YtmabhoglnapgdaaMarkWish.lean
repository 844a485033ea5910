/- The exact laws' marks in lists of wishes. -/
import Derived.Test.YtmabhoglnapgdaaWishS
import Derived.Test.YtmabhoglnapgdaaMarkInts
namespace Go.Proofs.Ytmabhoglnapgdaa
open Go.ChangeShapes Go.WideShapes Go.ChangeAt Go.RowKit
set_option linter.unusedVariables false

theorem markWishS_calls {base : Nat} {v : Value} {n : Nat} {xs : List Value} (k : Int) (w : World) (h : w.ownsRow base 28 3 v n xs) (hv : ∃ ao cap, v = .slice ao n cap) (hn : n ≤ 1048576) (hk : 0 ≤ k) (hk1 : k ≤ 10000000) :
    Calls Try.prog 40 #[v, .int .i64 k] w fun e w' => e = .returned (.int .i64 (k + 3 * n)) ∧ w.grownBy w' v.ownBlock := by
  obtain ⟨ao, cap, hv⟩ := hv
  subst hv
  go_enter Try.func40, Try.ntmps40
  go_wp2
  go_loopw [1, 5] (fun q i wr => ∃ (j : Nat) (ys : List Value), j ≤ n ∧ i = .int .i64 j ∧ q = .int .i64 (k + 3 * j) ∧ wr.ownsRow base 28 3 (.slice ao n cap) n ys ∧ w.grownBy wr (Value.slice ao n cap).ownBlock)
    (fun _ i _ => n - (intOf i).toNat)
  case atStart => exact ⟨0, xs, Nat.zero_le _, rfl, by simp, h, grown_refl _ _⟩
  case round =>
    obtain ⟨j, ys, hj, rfl, rfl, hO, hG⟩ := hrel
    by_cases hlt : j < n
    · obtain ⟨g, cap', hf⟩ := own_form hO (by omega)
      injection hf with e1 e2 e3
      subst e1 e3
      obtain ⟨u0, hu0⟩ := own_some hO (j * 3) (by omega)
      obtain ⟨u1, hu1⟩ := own_some hO (j * 3 + 1) (by omega)
      obtain ⟨u2, hu2⟩ := own_some hO (j * 3 + 2) (by omega)
      have hf0 := hO.frozenAt (j * 3)
      have hf1 := hO.frozenAt (j * 3 + 1)
      have hf2 := hO.frozenAt (j * 3 + 2)
      have s1 := hO.stored (j * 3) (.int .i64 (k + 3 * j))
      have s2 := s1.1.stored (j * 3 + 1) (.int .i64 (k + 3 * j + 1))
      have s3 := s2.1.stored (j * 3 + 2) (.int .i64 (k + 3 * j + 1 + 1))
      have H1 := Lib.hid s3.1
      have H2 := Lib.hid (grown_trans (grown_trans (grown_trans hG s1.2 (fun x hx => .inr hx)) s2.2 (fun x hx => .inr hx)) s3.2 (fun x hx => .inr hx))
      clear s1 s2 s3 hO hG h
      go_wp2
      go_roundw
      case rel => exact ⟨j + 1, _, by omega, by go_num, by congr 1; omega, H1.out, H2.out⟩
      case measure => simp [intOf]; omega
    · obtain rfl : j = n := by omega
      have HG := Lib.hid hG
      clear hO hG h
      go_wp2
      go_ret
      exact ⟨rfl, HG.out⟩
theorem RdI_of_ownL {w : World} {base : Nat} {e : TypeId} {ao : Option Addr} {n cap : Nat} {zs : List Int} (hl : zs.length = n) (h : w.ownsRow base e 1 (.slice ao n cap) n (zs.map (Value.int .i64))) : RdI w ao n cap (fun i => zs.getD i 0) := by
  subst hl
  obtain ⟨a, c, h1, h2, _⟩ := RdI_of_own h
  injection h1 with h1a h1b h1c
  subst h1a h1c
  exact h2
end Go.Proofs.Ytmabhoglnapgdaa
