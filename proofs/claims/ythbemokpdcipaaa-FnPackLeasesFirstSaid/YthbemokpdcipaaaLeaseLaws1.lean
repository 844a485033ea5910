/- The walks of the exact laws on leases: MostLeased, MeanLeased. -/
import Derived.Test.YthbemokpdcipaaaLease5
namespace Go.Proofs.Ythbemokpdcipaaa
open Go.ChangeShapes Go.WideShapes Go.ChangeAt Go.RowKit
set_option linter.unusedVariables false

theorem fnExactMostLeased_walk (ao : Option Addr) (n cap : Nat) (L : Nat → Lz) (w : World) (h : RdL w ao n cap L) : Calls Try.prog 8 #[.slice ao n cap] w (SaysTrue w) := by
  have hlen := h.len
  by_cases hn : 1048576 < n
  · go_enter Try.func8, Try.ntmps8
    go_wp2_with (go_at_call 17; refine (szLeaseS_neg _ _ _ _ _ hlen (by omega) (by omega)).mono ?_; rintro e w' ⟨rfl, rfl⟩)
    go_ret
    exact ⟨rfl, Below.refl _ _⟩
  · go_enter Try.func8, Try.ntmps8
    go_wp2_with (go_at_call 17; refine (szLeaseS_calls _ _ _ _ _ hlen (by omega) (by omega)).mono ?_; rintro e w' ⟨rfl, rfl⟩)
    refine (toLeaseS_calls ao n cap L w h (by omega)).mono ?_
    rintro e w1 ⟨v, rfl, a1, c1, rfl, O1, B1⟩
    have R1 := RdL_of_own O1
    clear O1
    go_wp2_with fail
    refine (specMostLeased_calls a1 n c1 L w1 R1).mono ?_
    rintro e w2 ⟨rfl, B2⟩
    have B02 := B1.trans (B2.mono B1.size)
    clear R1
    go_wp2_with fail
    refine (toLeaseS_calls ao n cap L w2 (h.below B02) (by omega)).mono ?_
    rintro e w3 ⟨v, rfl, a3, c3, rfl, O3, B3⟩
    have B03 := B02.trans (B3.mono B02.size)
    have R3 := RdL_of_own O3
    clear O3
    go_wp2_with fail
    refine (implMostLeased_calls a3 n c3 L w3 R3).mono ?_
    rintro e w4 ⟨rfl, B4⟩
    have B04 := B03.trans (B4.mono B03.size)
    have R4 := R3.below B4
    go_wp2_with fail
    refine (toLeaseS_calls ao n cap L w4 (h.below B04) (by omega)).mono ?_
    rintro e w5 ⟨v, rfl, a5, c5, rfl, O5, B5⟩
    have B05 := B04.trans (B5.mono B04.size)
    have R5 := RdL_of_own O5
    clear O5
    go_wp2_with fail
    refine (eqLeaseS_calls _ _ _ _ _ _ _ (R4.below B5) R5).mono ?_
    rintro e w6 ⟨rfl, B6⟩
    have B06 := B05.trans (B6.mono B05.size)
    go_wp2
    go_ret
    exact ⟨rfl, B06⟩

theorem fnExactMeanLeased_walk (ao : Option Addr) (n cap : Nat) (L : Nat → Lz) (u : Int) (w : World) (h : RdL w ao n cap L) (_h0 : -9223372036854775808 ≤ u ∧ u ≤ 9223372036854775807) : Calls Try.prog 6 #[.slice ao n cap, .int .i64 u] w (SaysTrue w) := by
  have hlen := h.len
  clear _h0
  by_cases hn : 1048576 < n
  · go_enter Try.func6, Try.ntmps6
    go_wp2_with (go_at_call 17; refine (szLeaseS_neg _ _ _ _ _ hlen (by omega) (by omega)).mono ?_; rintro e w' ⟨rfl, rfl⟩)
    go_ret
    exact ⟨rfl, Below.refl _ _⟩
  · go_enter Try.func6, Try.ntmps6
    go_wp2_with (go_at_call 17; refine (szLeaseS_calls _ _ _ _ _ hlen (by omega) (by omega)).mono ?_; rintro e w' ⟨rfl, rfl⟩)
    refine (toLeaseS_calls ao n cap L w h (by omega)).mono ?_
    rintro e w1 ⟨v, rfl, a1, c1, rfl, O1, B1⟩
    have R1 := RdL_of_own O1
    clear O1
    go_wp2_with fail
    refine (specMeanLeased_calls a1 n c1 L u w1 R1).mono ?_
    rintro e w2 ⟨rfl, B2⟩
    have B02 := B1.trans (B2.mono B1.size)
    clear R1
    go_wp2_with fail
    refine (toLeaseS_calls ao n cap L w2 (h.below B02) (by omega)).mono ?_
    rintro e w3 ⟨v, rfl, a3, c3, rfl, O3, B3⟩
    have B03 := B02.trans (B3.mono B02.size)
    have R3 := RdL_of_own O3
    clear O3
    go_wp2_with fail
    refine (implMeanLeased_calls a3 n c3 L u w3 R3).mono ?_
    rintro e w4 ⟨rfl, B4⟩
    have B04 := B03.trans (B4.mono B03.size)
    have R4 := R3.below B4
    go_wp2_with fail
    refine (toLeaseS_calls ao n cap L w4 (h.below B04) (by omega)).mono ?_
    rintro e w5 ⟨v, rfl, a5, c5, rfl, O5, B5⟩
    have B05 := B04.trans (B5.mono B04.size)
    have R5 := RdL_of_own O5
    clear O5
    go_wp2_with fail
    refine (eqLeaseS_calls _ _ _ _ _ _ _ (R4.below B5) R5).mono ?_
    rintro e w6 ⟨rfl, B6⟩
    have B06 := B05.trans (B6.mono B05.size)
    go_wp2
    go_ret
    exact ⟨rfl, B06⟩

end Go.Proofs.Ythbemokpdcipaaa
