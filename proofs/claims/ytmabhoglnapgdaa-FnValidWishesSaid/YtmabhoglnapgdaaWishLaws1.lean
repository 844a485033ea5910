/- The walks of the exact laws on ValidWishes, CountServed, LongestWait, ConnsFor. An argument that is a list of wishes, as the walks read it. -/
import Derived.Test.YtmabhoglnapgdaaWishS
import Derived.Test.YtmabhoglnapgdaaServe4
import Derived.Test.YtmabhoglnapgdaaOpenF
namespace Go.Proofs.Ytmabhoglnapgdaa
open Go.ChangeShapes Go.WideShapes Go.ChangeAt Go.RowKit
set_option linter.unusedVariables false
section
variable {H : Type} {enc : TypeId × Value → H} {w : World} {base : Nat} {spare : Nat → Bool} {held : Bool}
theorem open_wishes8 {ao : Option Addr} {len cap : Nat} {d : DataW H} {p : List MemPlace} (h : DataW.Trod enc Try.prog w base spare held 29 (.slice ao len cap) d p) : ∃ L : Nat → Wi, RdW w ao len cap L := by
  obtain ⟨L, hL⟩ := open_rdF Try.underlying29 Try.underlying48 (by kernel_rfl) (by kernel_rfl) (by decide) (fun i f hf => by
    match i, hf with
    | 0, hf => injection hf with hf; subst hf; exact Try.underlying3
    | 1, hf => injection hf with hf; subst hf; exact Try.underlying3
    | 2, hf => injection hf with hf; subst hf; exact Try.underlying3
    | i + 3, hf => simp at hf) h
  refine ⟨fun i => ⟨L i 0, L i 1, L i 2⟩, Rd.congr hL fun i hi j hj => ?_⟩
  have hj3 : j < 3 := hj
  have : j = 0 ∨ j = 1 ∨ j = 2 := by omega
  rcases this with rfl | rfl | rfl <;> rfl
end

theorem specValidWishes_calls (ao : Option Addr) (n cap : Nat) (L : Nat → Wi) (w : World) (h : RdW w ao n cap L) :
    Calls Try.prog 22 #[.slice ao n cap] w fun e w' => e = .returned (.bool (vW L n)) ∧ Below w.heap.size w w' := by
  go_enter Try.func22, Try.ntmps22
  go_wp2_with fail
  refine (specvalidWishes_calls ao n cap L w h).mono ?_
  rintro e w1 ⟨rfl, hb⟩
  go_wp2
  go_ret
  exact ⟨rfl, hb⟩

theorem fnExactValidWishes_walk (ao : Option Addr) (n cap : Nat) (L : Nat → Wi) (w : World) (h : RdW w ao n cap L) : Calls Try.prog 5 #[.slice ao n cap] w (SaysTrue w) := by
  have hlen := h.len
  by_cases hn : 1048576 < n
  · go_enter Try.func5, Try.ntmps5
    go_wp2_with (go_at_call 23; refine (szWishS_neg _ _ _ _ _ hlen (by omega) (by omega)).mono ?_; rintro e w' ⟨rfl, rfl⟩)
    go_ret
    exact ⟨rfl, Below.refl _ _⟩
  · go_enter Try.func5, Try.ntmps5
    go_wp2_with (go_at_call 23; refine (szWishS_calls _ _ _ _ _ hlen (by omega) (by omega)).mono ?_; rintro e w' ⟨rfl, rfl⟩)
    refine (toWishS_calls ao n cap L w h (by omega)).mono ?_
    rintro e w1 ⟨v, rfl, a1, c1, rfl, O1, B1⟩
    have R1 := RdW_of_own O1
    clear O1
    go_wp2_with fail
    refine (specValidWishes_calls a1 n c1 L w1 R1).mono ?_
    rintro e w2 ⟨rfl, B2⟩
    have B02 := B1.trans (B2.mono B1.size)
    clear R1
    go_wp2_with fail
    refine (toWishS_calls ao n cap L w2 (h.below B02) (by omega)).mono ?_
    rintro e w3 ⟨v, rfl, a3, c3, rfl, O3, B3⟩
    have B03 := B02.trans (B3.mono B02.size)
    have R3 := RdW_of_own O3
    clear O3
    go_wp2_with fail
    refine (implValidWishes_calls a3 n c3 L w3 R3).mono ?_
    rintro e w4 ⟨rfl, B4⟩
    have B04 := B03.trans (B4.mono B03.size)
    have R4 := R3.below B4
    go_wp2_with fail
    refine (toWishS_calls ao n cap L w4 (h.below B04) (by omega)).mono ?_
    rintro e w5 ⟨v, rfl, a5, c5, rfl, O5, B5⟩
    have B05 := B04.trans (B5.mono B04.size)
    have R5 := RdW_of_own O5
    clear O5
    go_wp2_with fail
    refine (eqWishS_calls _ _ _ _ _ _ _ (R4.below B5) R5).mono ?_
    rintro e w6 ⟨rfl, B6⟩
    have B06 := B05.trans (B6.mono B05.size)
    go_wp2
    go_ret
    exact ⟨rfl, B06⟩

theorem fnExactCountServed_walk (ao : Option Addr) (n cap : Nat) (L : Nat → Wi) (many : Int) (w : World) (h : RdW w ao n cap L) (_hn : -9223372036854775808 ≤ many ∧ many ≤ 9223372036854775807) : Calls Try.prog 12 #[.slice ao n cap, .int .i64 many] w (SaysTrue w) := by
  have hlen := h.len
  clear _hn
  by_cases hn : 1048576 < n
  · go_enter Try.func12, Try.ntmps12
    go_wp2_with (go_at_call 23; refine (szWishS_neg _ _ _ _ _ hlen (by omega) (by omega)).mono ?_; rintro e w' ⟨rfl, rfl⟩)
    go_ret
    exact ⟨rfl, Below.refl _ _⟩
  · go_enter Try.func12, Try.ntmps12
    go_wp2_with (go_at_call 23; refine (szWishS_calls _ _ _ _ _ hlen (by omega) (by omega)).mono ?_; rintro e w' ⟨rfl, rfl⟩)
    refine (toWishS_calls ao n cap L w h (by omega)).mono ?_
    rintro e w1 ⟨v, rfl, a1, c1, rfl, O1, B1⟩
    have R1 := RdW_of_own O1
    clear O1
    go_wp2_with fail
    refine (specCountServed_calls a1 n c1 L many w1 R1).mono ?_
    rintro e w2 ⟨rfl, B2⟩
    have B02 := B1.trans (B2.mono B1.size)
    clear R1
    go_wp2_with fail
    refine (toWishS_calls ao n cap L w2 (h.below B02) (by omega)).mono ?_
    rintro e w3 ⟨v, rfl, a3, c3, rfl, O3, B3⟩
    have B03 := B02.trans (B3.mono B02.size)
    have R3 := RdW_of_own O3
    clear O3
    go_wp2_with fail
    refine (implCountServed_calls a3 n c3 L many w3 R3).mono ?_
    rintro e w4 ⟨rfl, B4⟩
    have B04 := B03.trans (B4.mono B03.size)
    have R4 := R3.below B4
    go_wp2_with fail
    refine (toWishS_calls ao n cap L w4 (h.below B04) (by omega)).mono ?_
    rintro e w5 ⟨v, rfl, a5, c5, rfl, O5, B5⟩
    have B05 := B04.trans (B5.mono B04.size)
    have R5 := RdW_of_own O5
    clear O5
    go_wp2_with fail
    refine (eqWishS_calls _ _ _ _ _ _ _ (R4.below B5) R5).mono ?_
    rintro e w6 ⟨rfl, B6⟩
    have B06 := B05.trans (B6.mono B05.size)
    go_wp2
    go_ret
    exact ⟨rfl, B06⟩

theorem fnExactLongestWait_walk (ao : Option Addr) (n cap : Nat) (L : Nat → Wi) (many : Int) (w : World) (h : RdW w ao n cap L) (_hn : -9223372036854775808 ≤ many ∧ many ≤ 9223372036854775807) : Calls Try.prog 10 #[.slice ao n cap, .int .i64 many] w (SaysTrue w) := by
  have hlen := h.len
  clear _hn
  by_cases hn : 1048576 < n
  · go_enter Try.func10, Try.ntmps10
    go_wp2_with (go_at_call 23; refine (szWishS_neg _ _ _ _ _ hlen (by omega) (by omega)).mono ?_; rintro e w' ⟨rfl, rfl⟩)
    go_ret
    exact ⟨rfl, Below.refl _ _⟩
  · go_enter Try.func10, Try.ntmps10
    go_wp2_with (go_at_call 23; refine (szWishS_calls _ _ _ _ _ hlen (by omega) (by omega)).mono ?_; rintro e w' ⟨rfl, rfl⟩)
    refine (toWishS_calls ao n cap L w h (by omega)).mono ?_
    rintro e w1 ⟨v, rfl, a1, c1, rfl, O1, B1⟩
    have R1 := RdW_of_own O1
    clear O1
    go_wp2_with fail
    refine (specLongestWait_calls a1 n c1 L many w1 R1).mono ?_
    rintro e w2 ⟨rfl, B2⟩
    have B02 := B1.trans (B2.mono B1.size)
    clear R1
    go_wp2_with fail
    refine (toWishS_calls ao n cap L w2 (h.below B02) (by omega)).mono ?_
    rintro e w3 ⟨v, rfl, a3, c3, rfl, O3, B3⟩
    have B03 := B02.trans (B3.mono B02.size)
    have R3 := RdW_of_own O3
    clear O3
    go_wp2_with fail
    refine (implLongestWait_calls a3 n c3 L many w3 R3).mono ?_
    rintro e w4 ⟨rfl, B4⟩
    have B04 := B03.trans (B4.mono B03.size)
    have R4 := R3.below B4
    go_wp2_with fail
    refine (toWishS_calls ao n cap L w4 (h.below B04) (by omega)).mono ?_
    rintro e w5 ⟨v, rfl, a5, c5, rfl, O5, B5⟩
    have B05 := B04.trans (B5.mono B04.size)
    have R5 := RdW_of_own O5
    clear O5
    go_wp2_with fail
    refine (eqWishS_calls _ _ _ _ _ _ _ (R4.below B5) R5).mono ?_
    rintro e w6 ⟨rfl, B6⟩
    have B06 := B05.trans (B6.mono B05.size)
    go_wp2
    go_ret
    exact ⟨rfl, B06⟩

theorem fnExactConnsFor_walk (ao : Option Addr) (n cap : Nat) (L : Nat → Wi) (w : World) (h : RdW w ao n cap L) : Calls Try.prog 19 #[.slice ao n cap] w (SaysTrue w) := by
  have hlen := h.len
  by_cases hn : 1048576 < n
  · go_enter Try.func19, Try.ntmps19
    go_wp2_with (go_at_call 23; refine (szWishS_neg _ _ _ _ _ hlen (by omega) (by omega)).mono ?_; rintro e w' ⟨rfl, rfl⟩)
    go_ret
    exact ⟨rfl, Below.refl _ _⟩
  · go_enter Try.func19, Try.ntmps19
    go_wp2_with (go_at_call 23; refine (szWishS_calls _ _ _ _ _ hlen (by omega) (by omega)).mono ?_; rintro e w' ⟨rfl, rfl⟩)
    refine (toWishS_calls ao n cap L w h (by omega)).mono ?_
    rintro e w1 ⟨v, rfl, a1, c1, rfl, O1, B1⟩
    have R1 := RdW_of_own O1
    clear O1
    go_wp2_with fail
    refine (specConnsFor_calls a1 n c1 L w1 R1).mono ?_
    rintro e w2 ⟨rfl, B2⟩
    have B02 := B1.trans (B2.mono B1.size)
    clear R1
    go_wp2_with fail
    refine (toWishS_calls ao n cap L w2 (h.below B02) (by omega)).mono ?_
    rintro e w3 ⟨v, rfl, a3, c3, rfl, O3, B3⟩
    have B03 := B02.trans (B3.mono B02.size)
    have R3 := RdW_of_own O3
    clear O3
    go_wp2_with fail
    refine (implConnsFor_calls a3 n c3 L w3 R3).mono ?_
    rintro e w4 ⟨rfl, B4⟩
    have B04 := B03.trans (B4.mono B03.size)
    have R4 := R3.below B4
    go_wp2_with fail
    refine (toWishS_calls ao n cap L w4 (h.below B04) (by omega)).mono ?_
    rintro e w5 ⟨v, rfl, a5, c5, rfl, O5, B5⟩
    have B05 := B04.trans (B5.mono B04.size)
    have R5 := RdW_of_own O5
    clear O5
    go_wp2_with fail
    refine (eqWishS_calls _ _ _ _ _ _ _ (R4.below B5) R5).mono ?_
    rintro e w6 ⟨rfl, B6⟩
    have B06 := B05.trans (B6.mono B05.size)
    go_wp2
    go_ret
    exact ⟨rfl, B06⟩
end Go.Proofs.Ytmabhoglnapgdaa
