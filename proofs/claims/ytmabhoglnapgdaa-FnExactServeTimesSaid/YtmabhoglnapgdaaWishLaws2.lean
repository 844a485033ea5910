/- The walk of the exact law on ServeTimes. -/
import Derived.Test.YtmabhoglnapgdaaWishLaws1
import Derived.Test.YtmabhoglnapgdaaMarkWish
namespace Go.Proofs.Ytmabhoglnapgdaa
open Go.ChangeShapes Go.WideShapes Go.ChangeAt Go.RowKit
set_option linter.unusedVariables false

theorem own_grown {w w' : World} {B e s n : Nat} {v : Value} {xs : List Value} {row : Option Nat} (h : w.ownsRow B e s v n xs) (hg : w.grownBy w' row) (hne : ∀ g, row = some g → v.ownBlock ≠ some g) : w'.ownsRow B e s v n xs := by
  refine h.kept hg ?_
  cases hv : v.ownBlock
  · exact .inl rfl
  · right
    intro e'
    exact hne _ e'.symm hv

set_option maxHeartbeats 1000000 in
theorem fnExactServeTimes_walk (ao : Option Addr) (n cap : Nat) (L : Nat → Wi) (many : Int) (w : World) (h : RdW w ao n cap L) (_hn : -9223372036854775808 ≤ many ∧ many ≤ 9223372036854775807) : Calls Try.prog 18 #[.slice ao n cap, .int .i64 many] w (SaysTrue w) := by
  have hlen := h.len
  clear _hn
  by_cases hn : 1048576 < n
  · go_enter Try.func18, Try.ntmps18
    go_wp2_with (go_at_call 23; refine (szWishS_neg _ _ _ _ _ hlen (by omega) (by omega)).mono ?_; rintro e w' ⟨rfl, rfl⟩)
    go_ret
    exact ⟨rfl, Below.refl _ _⟩
  · have hk : serveN L n many ≤ 1048576 := by unfold serveN; split <;> omega
    have hz := serveT_len L n many
    generalize hN : serveN L n many = N at *
    generalize hZ : serveT L n many = Z at *
    have HN := Lib.hid hN
    have HZ := Lib.hid hZ
    have hzl := Lib.hid hz
    clear hN hZ hz
    go_enter Try.func18, Try.ntmps18
    go_wp2_with (go_at_call 23; refine (szWishS_calls _ _ _ _ _ hlen (by omega) (by omega)).mono ?_; rintro e w' ⟨rfl, rfl⟩)
    refine (toWishS_calls ao n cap L w h (by omega)).mono ?_
    rintro e w1 ⟨v, rfl, a1, c1, rfl, O1, B1⟩
    have S := specServeTimes_calls a1 n c1 L many w1 (RdW_of_own O1)
    rw [HN.out, HZ.out] at S
    clear O1
    go_wp2_with fail
    refine S.mono ?_
    rintro e w2 ⟨_, v, rfl, OW, ⟨aw, cw, rfl⟩, B2⟩
    have B02 := B1.trans (B2.mono B1.size)
    clear S
    go_wp2_with fail
    refine (toWishS_calls ao n cap L w2 (h.below B02) (by omega)).mono ?_
    rintro e w3 ⟨v, rfl, ax, cx, rfl, OX, B3⟩
    have B03 := B02.trans (B3.mono B02.size)
    have I := implServeTimes_calls ax n cx L many w3 (RdW_of_own OX)
    rw [HN.out, HZ.out] at I
    go_wp2_with fail
    refine I.mono ?_
    rintro e w4 ⟨_, v, rfl, OG, ⟨ag, cg, rfl⟩, B4⟩
    have B04 := B03.trans (B4.mono B03.size)
    have OW4 := own_below (own_below OW B3) B4
    have OX4 := own_below OX B4
    clear I
    go_wp2_with fail
    refine (eqIntS_calls _ _ _ _ _ _ _ (RdI_of_ownL hzl.out OG) (RdI_of_ownL hzl.out OW4)).mono ?_
    rintro e w5 ⟨rfl, B5⟩
    have B05 := B04.trans (B5.mono B04.size)
    have OW5 := own_below OW4 B5
    have OX5 := own_below OX4 B5
    have OG5 := own_below OG B5
    clear OW4 OX4
    go_wp2_with fail
    refine (toWishS_calls ao n cap L w5 (h.below B05) (by omega)).mono ?_
    rintro e w6 ⟨v, rfl, a6, c6, rfl, O6, B6⟩
    have B06 := B05.trans (B6.mono B05.size)
    have OW6 := own_below OW5 B6
    have OX6 := own_below OX5 B6
    have OG6 := own_below OG5 B6
    clear OW5 OX5 OG5
    go_wp2_with fail
    refine (eqWishS_calls _ _ _ _ _ _ _ (RdW_of_own OX6) (RdW_of_own O6)).mono ?_
    rintro e w7 ⟨rfl, B7⟩
    have B07 := B06.trans (B7.mono B06.size)
    have OW7 := own_below OW6 B7
    have OX7 := own_below OX6 B7
    have OG7 := own_below OG6 B7
    clear OW6 OX6 OG6 O6
    go_wp2_with fail
    refine (markWishS_calls 1 _ OX7 ⟨_, _, rfl⟩ (by omega) (by omega) (by omega)).mono ?_
    rintro e w8 ⟨rfl, G8⟩
    have xlt := OX.lt
    have wlt := OW.lt
    have glt := OG.lt
    have s2 := B3.size
    have s3 := B4.size
    have B08 : Below w.heap.size w w8 := B07.grown G8 B07.size (fun g hg => by have := xlt g hg; have := B02.size; omega)
    have OW8 := own_grown OW7 G8 (fun g hg e => by have := xlt g hg; have := wlt g e; omega)
    have OG8 := own_grown OG7 G8 (fun g hg e => by have := xlt g hg; have := glt g e; omega)
    clear OW7 OX7 OG7 G8
    go_wp2_with fail
    refine (eqIntS_calls _ _ _ _ _ _ _ (RdI_of_ownL hzl.out OG8) (RdI_of_ownL hzl.out OW8)).mono ?_
    rintro e w9 ⟨rfl, B9⟩
    have B09 := B08.trans (B9.mono B08.size)
    have OW9 := own_below OW8 B9
    have OG9 := own_below OG8 B9
    clear OW8 OG8
    go_wp2_with fail
    refine (markIntS_calls 1 _ OG9 ⟨_, _, rfl⟩ (by omega) (by omega) (by omega)).mono ?_
    rintro e w10 ⟨rfl, OM10, G10⟩
    have B10 : Below w.heap.size w w10 := B09.grown G10 B09.size (fun g hg => by have := glt g hg; have := B03.size; omega)
    have OW10 := own_grown OW9 G10 (fun g hg e => by have := glt g hg; have := wlt g e; omega)
    clear OW9 OG9 G10
    go_wp2_with fail
    refine (heldIntS_calls 1 _ OM10 ⟨_, _, rfl⟩ (by omega) (by omega) (by omega)).mono ?_
    rintro e w11 ⟨rfl, B11'⟩
    have B11 := B10.trans (B11'.mono B10.size)
    have OW11 := own_below OW10 B11'
    have OM11 := own_below OM10 B11'
    clear OW10 OM10
    go_wp2_with fail
    refine (toWishS_calls ao n cap L w11 (h.below B11) (by omega)).mono ?_
    rintro e w12 ⟨v, rfl, a12, c12, rfl, O12, B12'⟩
    have B12 := B11.trans (B12'.mono B11.size)
    have OW12 := own_below OW11 B12'
    have OM12 := own_below OM11 B12'
    have I := implServeTimes_calls a12 n c12 L many w12 (RdW_of_own O12)
    rw [HN.out, HZ.out] at I
    clear OW11 OM11 O12
    go_wp2_with fail
    refine I.mono ?_
    rintro e w13 ⟨_, v, rfl, OH, ⟨ah, ch, rfl⟩, B13'⟩
    have B13 := B12.trans (B13'.mono B12.size)
    have OW13 := own_below OW12 B13'
    have OM13 := own_below OM12 B13'
    clear OW12 OM12 I
    go_wp2_with fail
    refine (eqIntS_calls _ _ _ _ _ _ _ (RdI_of_ownL hzl.out OH) (RdI_of_ownL hzl.out OW13)).mono ?_
    rintro e w14 ⟨rfl, B14'⟩
    have B14 := B13.trans (B14'.mono B13.size)
    have OM14 := own_below OM13 B14'
    clear OW13 OM13 OH
    go_wp2_with fail
    refine (heldIntS_calls 1 _ OM14 ⟨_, _, rfl⟩ (by omega) (by omega) (by omega)).mono ?_
    rintro e w15 ⟨rfl, B15'⟩
    have B15 := B14.trans (B15'.mono B14.size)
    clear OM14 OW OX OG
    go_wp2
    go_ret
    exact ⟨rfl, B15⟩
end Go.Proofs.Ytmabhoglnapgdaa
