/- The walk of the exact law on leases: PackLeases. -/
import Derived.Test.YthbemokpdcipaaaPack7
namespace Go.Proofs.Ythbemokpdcipaaa
open Go.ChangeShapes Go.WideShapes Go.ChangeAt Go.RowKit
set_option linter.unusedVariables false

theorem packN_le (L : Nat → Lz) (n : Nat) : packN L n ≤ n := by unfold packN; split <;> omega

set_option maxHeartbeats 1000000 in
theorem fnExactPackLeases_walk (ao : Option Addr) (n cap : Nat) (L : Nat → Lz) (w : World) (h : RdL w ao n cap L) : Calls Try.prog 5 #[.slice ao n cap] w (SaysTrue w) := by
  have hlen := h.len
  by_cases hn : 1048576 < n
  · go_enter Try.func5, Try.ntmps5
    go_wp2_with (go_at_call 17; refine (szLeaseS_neg _ _ _ _ _ hlen (by omega) (by omega)).mono ?_; rintro e w' ⟨rfl, rfl⟩)
    go_ret
    exact ⟨rfl, Below.refl _ _⟩
  · have I : ∀ (ao : Option Addr) (cap : Nat) (w : World), RdL w ao n cap L → Calls Try.prog 14 #[.slice ao n cap] w (Own2L w (packN L n) (packL L n) (vL L n)) := fun ao cap w h => implPackLeases_own ao n cap L w h
    have S : ∀ (ao : Option Addr) (cap : Nat) (w : World), RdL w ao n cap L → Calls Try.prog 15 #[.slice ao n cap] w (Own2L w (packN L n) (packL L n) (vL L n)) := fun ao cap w h => specPackLeases_own ao n cap L w h
    have hk : packN L n ≤ 1048576 := by have := packN_le L n; omega
    generalize packN L n = N at I S hk
    generalize packL L n = M at I S hk
    generalize vL L n = ok at I S hk
    have HI := Lib.hid I
    have HS := Lib.hid S
    clear I S
    go_enter Try.func5, Try.ntmps5
    go_wp2_with (go_at_call 17; refine (szLeaseS_calls _ _ _ _ _ hlen (by omega) (by omega)).mono ?_; rintro e w' ⟨rfl, rfl⟩)
    refine (toLeaseS_calls ao n cap L w h (by omega)).mono ?_
    rintro e w1 ⟨v, rfl, a1, c1, rfl, O1, B1⟩
    have R1 := RdL_of_own O1
    clear O1
    go_wp2_with fail
    refine (HS.out a1 c1 w1 R1).mono ?_
    rintro e w2 ⟨aW, cW, dW, rfl, pW, qW, rW, OW, BW⟩
    have B02 := B1.trans (BW.mono B1.size)
    clear R1
    go_wp2_with fail
    refine (toLeaseS_calls ao n cap L w2 (h.below B02) (by omega)).mono ?_
    rintro e w3 ⟨v, rfl, ax, cx, rfl, OX, B3⟩
    have B03 := B02.trans (B3.mono B02.size)
    go_wp2_with fail
    refine (HI.out ax cx w3 (RdL_of_own OX)).mono ?_
    rintro e w4 ⟨aG, cG, dG, rfl, pG, qG, rG, OG, BG⟩
    have B04 := B03.trans (BG.mono B03.size)
    have OW4 := own_below (own_below OW B3) BG
    have OX4 := own_below OX BG
    go_wp2_with fail
    refine (eqLeaseS_calls _ _ _ _ _ _ _ (Rd.recap (RdL_of_own OG) pG qG rG) (Rd.recap (RdL_of_own OW4) pW qW rW)).mono ?_
    rintro e w5 ⟨rfl, B5⟩
    have B05 := B04.trans (B5.mono B04.size)
    have OW5 := own_below OW4 B5
    have OX5 := own_below OX4 B5
    have OG5 := own_below OG B5
    clear OW4 OX4
    go_wp2_with fail
    refine (toLeaseS_calls ao n cap L w5 (h.below B05) (by omega)).mono ?_
    rintro e w6 ⟨v, rfl, a6, c6, rfl, O6, B6⟩
    have B06 := B05.trans (B6.mono B05.size)
    have OW6 := own_below OW5 B6
    have OX6 := own_below OX5 B6
    have OG6 := own_below OG5 B6
    clear OW5 OX5 OG5
    go_wp2_with fail
    refine (eqLeaseS_calls _ _ _ _ _ _ _ (RdL_of_own OX6) (RdL_of_own O6)).mono ?_
    rintro e w7 ⟨rfl, B7⟩
    have B07 := B06.trans (B7.mono B06.size)
    have OW7 := own_below OW6 B7
    have OX7 := own_below OX6 B7
    have OG7 := own_below OG6 B7
    clear OW6 OX6 OG6 O6
    go_wp2_with fail
    refine (markLeaseS_calls 1 L _ OX7 (by omega) (by omega) (by omega)).mono ?_
    rintro e w8 ⟨rfl, _, G8⟩
    have xlt := OX.lt
    have wlt := OW.lt
    have glt := OG.lt
    have s2 := B3.size
    have s3 := BG.size
    have B08 : Below w.heap.size w w8 := B07.grown G8 B07.size (fun g hg => by have := xlt g hg; have := B02.size; omega)
    have OW8 := own_grown OW7 G8 (fun g hg e => by have := xlt g hg; have := wlt g e; omega)
    have OG8 := own_grown OG7 G8 (fun g hg e => by have := xlt g hg; have := glt g e; omega)
    clear OW7 OX7 OG7 G8
    go_wp2_with fail
    refine (eqLeaseS_calls _ _ _ _ _ _ _ (Rd.recap (RdL_of_own OG8) pG qG rG) (Rd.recap (RdL_of_own OW8) pW qW rW)).mono ?_
    rintro e w9 ⟨rfl, B9⟩
    have B09 := B08.trans (B9.mono B08.size)
    have OW9 := own_below OW8 B9
    have OG9 := own_below OG8 B9
    clear OW8 OG8
    go_wp2_with fail
    refine (markLeaseS_calls 1 _ _ OG9 (by omega) (by omega) (by omega)).mono ?_
    rintro e w10 ⟨rfl, OM10, G10⟩
    have B10 : Below w.heap.size w w10 := B09.grown G10 B09.size (fun g hg => by have := glt g hg; have := B03.size; omega)
    have OW10 := own_grown OW9 G10 (fun g hg e => by have := glt g hg; have := wlt g e; omega)
    clear OW9 OG9 G10
    go_wp2_with fail
    refine (heldLeaseS_calls 1 _ OM10 (by omega) (by omega) (by omega)).mono ?_
    rintro e w11 ⟨rfl, B11'⟩
    have B11 := B10.trans (B11'.mono B10.size)
    have OW11 := own_below OW10 B11'
    have OM11 := own_below OM10 B11'
    clear OW10 OM10
    go_wp2_with fail
    refine (toLeaseS_calls ao n cap L w11 (h.below B11) (by omega)).mono ?_
    rintro e w12 ⟨v, rfl, a12, c12, rfl, O12, B12'⟩
    have B12 := B11.trans (B12'.mono B11.size)
    have OW12 := own_below OW11 B12'
    have OM12 := own_below OM11 B12'
    have R12 := RdL_of_own O12
    clear OW11 OM11 O12
    go_wp2_with fail
    refine (HI.out a12 c12 w12 R12).mono ?_
    rintro e w13 ⟨aH, cH, dH, rfl, pH, qH, rH, OH, BH⟩
    have B13 := B12.trans (BH.mono B12.size)
    have OW13 := own_below OW12 BH
    have OM13 := own_below OM12 BH
    clear OW12 OM12
    go_wp2_with fail
    refine (eqLeaseS_calls _ _ _ _ _ _ _ (Rd.recap (RdL_of_own OH) pH qH rH) (Rd.recap (RdL_of_own OW13) pW qW rW)).mono ?_
    rintro e w14 ⟨rfl, B14'⟩
    have B14 := B13.trans (B14'.mono B13.size)
    have OM14 := own_below OM13 B14'
    clear OW13 OM13 OH
    go_wp2_with fail
    refine (heldLeaseS_calls 1 _ OM14 (by omega) (by omega) (by omega)).mono ?_
    rintro e w15 ⟨rfl, B15'⟩
    have B15 := B14.trans (B15'.mono B14.size)
    clear OM14 OW OX OG
    go_wp2
    go_ret
    exact ⟨rfl, B15⟩

end Go.Proofs.Ythbemokpdcipaaa
