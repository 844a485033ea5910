/- The walks of the exact laws on ages. -/
import Derived.Test.YtmkpdcikpjpeaaaAge4
import Derived.Test.YtmkpdcikpjpeaaaMarkIntsC
namespace Go.Proofs.Ytmkpdcikpjpeaaa
open Go.ChangeShapes Go.WideShapes Go.ChangeAt Go.RowKit
set_option linter.unusedVariables false

theorem own_grown {w w' : World} {B e s n : Nat} {v : Value} {xs : List Value} {row : Option Nat} (h : w.ownsRow B e s v n xs) (hg : w.grownBy w' row) (hne : ∀ g, row = some g → v.ownBlock ≠ some g) : w'.ownsRow B e s v n xs := by
  refine h.kept hg ?_
  cases hv : v.ownBlock
  · exact .inl rfl
  · right
    intro e'
    exact hne _ e'.symm hv
/-- A list in new memory, and a bool; the capacity told may be less than the memory's. -/
def Own2A (w : World) (N : Nat) (M : Nat → Ag) (ok : Bool) (e : Ending) (w' : World) : Prop :=
  ∃ a c c', e = .returned (.tuple #[.slice a N c, .bool ok]) ∧ N ≤ c ∧ c ≤ maxLen ∧ (a = none → c = 0) ∧ w'.ownsRow w.heap.size 28 2 (.slice a N c') N (rowsA M N) ∧ Below w.heap.size w w'
def touchN (L : Nat → Ag) (n : Nat) (conn now : Int) : Nat := if touchOk L n conn now then n else 0
theorem own2_of {w : World} {L : Nat → Ag} {n : Nat} {conn now : Int} {e : Ending} {w' : World} (h : TouchR w L n conn now e w') : Own2A w (touchN L n conn now) (touchA L conn now) (touchOk L n conn now) e w' := by
  rcases h with ⟨h1, rfl, hb⟩ | ⟨h1, a, c, c', rfl, h2, h3, h4, h5, hb⟩
  · have e1 : touchN L n conn now = 0 := by simp [touchN, h1]
    rw [e1, h1]
    exact ⟨none, 0, 0, rfl, Nat.le_refl _, by unfold maxLen; omega, fun _ => rfl, World.ownsRow_nil _ _ _ _, hb⟩
  · have e1 : touchN L n conn now = n := by simp [touchN, h1]
    rw [e1, h1]
    exact ⟨a, c, c', rfl, h2, h3, h4, h5, hb⟩
theorem implTouchConn_own (ao : Option Addr) (n cap : Nat) (L : Nat → Ag) (conn now : Int) (w : World) (h : RdA w ao n cap L) : Calls Try.prog 27 #[.slice ao n cap, .int .i64 conn, .int .i64 now] w (Own2A w (touchN L n conn now) (touchA L conn now) (touchOk L n conn now)) :=
  (implTouchConn_calls ao n cap L conn now w h).mono fun _ _ h => own2_of h
theorem specTouchConn_own (ao : Option Addr) (n cap : Nat) (L : Nat → Ag) (conn now : Int) (w : World) (h : RdA w ao n cap L) : Calls Try.prog 28 #[.slice ao n cap, .int .i64 conn, .int .i64 now] w (Own2A w (touchN L n conn now) (touchA L conn now) (touchOk L n conn now)) :=
  (specTouchConn_calls ao n cap L conn now w h).mono fun _ _ h => own2_of h
theorem implEndedConns_own (ao : Option Addr) (n cap : Nat) (L : Nat → Ag) (now life rest : Int) (w : World) (h : RdA w ao n cap L) : Calls Try.prog 30 #[.slice ao n cap, .int .i64 now, .int .i64 life, .int .i64 rest] w (IntsC w (endedN L n now life rest) (endedConns L n now life rest)) := implEndedConns_calls ao n cap L now life rest w h
theorem specEndedConns_own (ao : Option Addr) (n cap : Nat) (L : Nat → Ag) (now life rest : Int) (w : World) (h : RdA w ao n cap L) : Calls Try.prog 35 #[.slice ao n cap, .int .i64 now, .int .i64 life, .int .i64 rest] w (IntsC w (endedN L n now life rest) (endedConns L n now life rest)) := specEndedConns_calls ao n cap L now life rest w h
theorem RdI_of_ownL {w : World} {base : Nat} {e : TypeId} {ao : Option Addr} {n cap : Nat} {zs : List Int} (hl : zs.length = n) (h : w.ownsRow base e 1 (.slice ao n cap) n (zs.map (Value.int .i64))) : RdI w ao n cap (fun i => zs.getD i 0) := by
  subst hl
  obtain ⟨a, c, h1, h2, _⟩ := RdI_of_own h
  injection h1 with h1a h1b h1c
  subst h1a h1c
  exact h2
theorem endedN_le (L : Nat → Ag) (n : Nat) (now life rest : Int) : endedN L n now life rest ≤ n := by
  unfold endedN endedConns; split
  · exact endedL_len _ _ _ _ _
  · simp

theorem fnExactValidAges_walk (ao : Option Addr) (n cap : Nat) (L : Nat → Ag) (w : World) (h : RdA w ao n cap L) : Calls Try.prog 5 #[.slice ao n cap] w (SaysTrue w) := by
  have hlen := h.len
  by_cases hn : 1048576 < n
  · go_enter Try.func5, Try.ntmps5
    go_wp2_with (go_at_call 20; refine (szAgeS_neg _ _ _ _ _ hlen (by omega) (by omega)).mono ?_; rintro e w' ⟨rfl, rfl⟩)
    go_ret
    exact ⟨rfl, Below.refl _ _⟩
  · go_enter Try.func5, Try.ntmps5
    go_wp2_with (go_at_call 20; refine (szAgeS_calls _ _ _ _ _ hlen (by omega) (by omega)).mono ?_; rintro e w' ⟨rfl, rfl⟩)
    refine (toAgeS_calls ao n cap L w h (by omega)).mono ?_
    rintro e w1 ⟨v, rfl, a1, c1, rfl, O1, B1⟩
    have R1 := RdA_of_own O1
    clear O1
    go_wp2_with fail
    refine (specValidAges_calls a1 n c1 L w1 R1).mono ?_
    rintro e w2 ⟨rfl, B2⟩
    have B02 := B1.trans (B2.mono B1.size)
    clear R1
    go_wp2_with fail
    refine (toAgeS_calls ao n cap L w2 (h.below B02) (by omega)).mono ?_
    rintro e w3 ⟨v, rfl, a3, c3, rfl, O3, B3⟩
    have B03 := B02.trans (B3.mono B02.size)
    have R3 := RdA_of_own O3
    clear O3
    go_wp2_with fail
    refine (implValidAges_calls a3 n c3 L w3 R3).mono ?_
    rintro e w4 ⟨rfl, B4⟩
    have B04 := B03.trans (B4.mono B03.size)
    have R4 := R3.below B4
    go_wp2_with fail
    refine (toAgeS_calls ao n cap L w4 (h.below B04) (by omega)).mono ?_
    rintro e w5 ⟨v, rfl, a5, c5, rfl, O5, B5⟩
    have B05 := B04.trans (B5.mono B04.size)
    have R5 := RdA_of_own O5
    clear O5
    go_wp2_with fail
    refine (eqAgeS_calls _ _ _ _ _ _ _ (R4.below B5) R5).mono ?_
    rintro e w6 ⟨rfl, B6⟩
    have B06 := B05.trans (B6.mono B05.size)
    go_wp2
    go_ret
    exact ⟨rfl, B06⟩

theorem fnExactNextEnd_walk (ao : Option Addr) (n cap : Nat) (L : Nat → Ag) (life : Int) (rest : Int) (w : World) (h : RdA w ao n cap L) (_h0 : -9223372036854775808 ≤ life ∧ life ≤ 9223372036854775807) (_h1 : -9223372036854775808 ≤ rest ∧ rest ≤ 9223372036854775807) : Calls Try.prog 6 #[.slice ao n cap, .int .i64 life, .int .i64 rest] w (SaysTrue w) := by
  have hlen := h.len
  clear _h0 _h1
  by_cases hn : 1048576 < n
  · go_enter Try.func6, Try.ntmps6
    go_wp2_with (go_at_call 20; refine (szAgeS_neg _ _ _ _ _ hlen (by omega) (by omega)).mono ?_; rintro e w' ⟨rfl, rfl⟩)
    go_ret
    exact ⟨rfl, Below.refl _ _⟩
  · go_enter Try.func6, Try.ntmps6
    go_wp2_with (go_at_call 20; refine (szAgeS_calls _ _ _ _ _ hlen (by omega) (by omega)).mono ?_; rintro e w' ⟨rfl, rfl⟩)
    refine (toAgeS_calls ao n cap L w h (by omega)).mono ?_
    rintro e w1 ⟨v, rfl, a1, c1, rfl, O1, B1⟩
    have R1 := RdA_of_own O1
    clear O1
    go_wp2_with fail
    refine (specNextEnd_calls a1 n c1 L life rest w1 R1).mono ?_
    rintro e w2 ⟨rfl, B2⟩
    have B02 := B1.trans (B2.mono B1.size)
    clear R1
    go_wp2_with fail
    refine (toAgeS_calls ao n cap L w2 (h.below B02) (by omega)).mono ?_
    rintro e w3 ⟨v, rfl, a3, c3, rfl, O3, B3⟩
    have B03 := B02.trans (B3.mono B02.size)
    have R3 := RdA_of_own O3
    clear O3
    go_wp2_with fail
    refine (implNextEnd_calls a3 n c3 L life rest w3 R3).mono ?_
    rintro e w4 ⟨rfl, B4⟩
    have B04 := B03.trans (B4.mono B03.size)
    have R4 := R3.below B4
    go_wp2_with fail
    refine (toAgeS_calls ao n cap L w4 (h.below B04) (by omega)).mono ?_
    rintro e w5 ⟨v, rfl, a5, c5, rfl, O5, B5⟩
    have B05 := B04.trans (B5.mono B04.size)
    have R5 := RdA_of_own O5
    clear O5
    go_wp2_with fail
    refine (eqAgeS_calls _ _ _ _ _ _ _ (R4.below B5) R5).mono ?_
    rintro e w6 ⟨rfl, B6⟩
    have B06 := B05.trans (B6.mono B05.size)
    go_wp2
    go_ret
    exact ⟨rfl, B06⟩

set_option maxHeartbeats 1000000 in
theorem fnExactTouchConn_walk (ao : Option Addr) (n cap : Nat) (L : Nat → Ag) (conn : Int) (now : Int) (w : World) (h : RdA w ao n cap L) (_h0 : -9223372036854775808 ≤ conn ∧ conn ≤ 9223372036854775807) (_h1 : -9223372036854775808 ≤ now ∧ now ≤ 9223372036854775807) : Calls Try.prog 11 #[.slice ao n cap, .int .i64 conn, .int .i64 now] w (SaysTrue w) := by
  have hlen := h.len
  clear _h0 _h1
  by_cases hn : 1048576 < n
  · go_enter Try.func11, Try.ntmps11
    go_wp2_with (go_at_call 20; refine (szAgeS_neg _ _ _ _ _ hlen (by omega) (by omega)).mono ?_; rintro e w' ⟨rfl, rfl⟩)
    go_ret
    exact ⟨rfl, Below.refl _ _⟩
  · have I : ∀ (ao : Option Addr) (cap : Nat) (w : World), RdA w ao n cap L → Calls Try.prog 27 #[.slice ao n cap, .int .i64 conn, .int .i64 now] w (Own2A w (touchN L n conn now) (touchA L conn now) (touchOk L n conn now)) := fun ao cap w h => implTouchConn_own ao n cap L conn now w h
    have S : ∀ (ao : Option Addr) (cap : Nat) (w : World), RdA w ao n cap L → Calls Try.prog 28 #[.slice ao n cap, .int .i64 conn, .int .i64 now] w (Own2A w (touchN L n conn now) (touchA L conn now) (touchOk L n conn now)) := fun ao cap w h => specTouchConn_own ao n cap L conn now w h
    have hk : touchN L n conn now ≤ 1048576 := by unfold touchN; split <;> omega
    generalize touchN L n conn now = N at I S hk
    generalize touchA L conn now = M at I S hk
    generalize touchOk L n conn now = ok at I S hk
    have HI := Lib.hid I
    have HS := Lib.hid S
    clear I S
    go_enter Try.func11, Try.ntmps11
    go_wp2_with (go_at_call 20; refine (szAgeS_calls _ _ _ _ _ hlen (by omega) (by omega)).mono ?_; rintro e w' ⟨rfl, rfl⟩)
    refine (toAgeS_calls ao n cap L w h (by omega)).mono ?_
    rintro e w1 ⟨v, rfl, a1, c1, rfl, O1, B1⟩
    have R1 := RdA_of_own O1
    clear O1
    go_wp2_with fail
    refine (HS.out a1 c1 w1 R1).mono ?_
    rintro e w2 ⟨aW, cW, dW, rfl, pW, qW, rW, OW, BW⟩
    have B02 := B1.trans (BW.mono B1.size)
    clear R1
    go_wp2_with fail
    refine (toAgeS_calls ao n cap L w2 (h.below B02) (by omega)).mono ?_
    rintro e w3 ⟨v, rfl, ax, cx, rfl, OX, B3⟩
    have B03 := B02.trans (B3.mono B02.size)
    go_wp2_with fail
    refine (HI.out ax cx w3 (RdA_of_own OX)).mono ?_
    rintro e w4 ⟨aG, cG, dG, rfl, pG, qG, rG, OG, BG⟩
    have B04 := B03.trans (BG.mono B03.size)
    have OW4 := own_below (own_below OW B3) BG
    have OX4 := own_below OX BG
    go_wp2_with fail
    refine (eqAgeS_calls _ _ _ _ _ _ _ (Rd.recap (RdA_of_own OG) pG qG rG) (Rd.recap (RdA_of_own OW4) pW qW rW)).mono ?_
    rintro e w5 ⟨rfl, B5⟩
    have B05 := B04.trans (B5.mono B04.size)
    have OW5 := own_below OW4 B5
    have OX5 := own_below OX4 B5
    have OG5 := own_below OG B5
    clear OW4 OX4
    go_wp2_with fail
    refine (toAgeS_calls ao n cap L w5 (h.below B05) (by omega)).mono ?_
    rintro e w6 ⟨v, rfl, a6, c6, rfl, O6, B6⟩
    have B06 := B05.trans (B6.mono B05.size)
    have OW6 := own_below OW5 B6
    have OX6 := own_below OX5 B6
    have OG6 := own_below OG5 B6
    clear OW5 OX5 OG5
    go_wp2_with fail
    refine (eqAgeS_calls _ _ _ _ _ _ _ (RdA_of_own OX6) (RdA_of_own O6)).mono ?_
    rintro e w7 ⟨rfl, B7⟩
    have B07 := B06.trans (B7.mono B06.size)
    have OW7 := own_below OW6 B7
    have OX7 := own_below OX6 B7
    have OG7 := own_below OG6 B7
    clear OW6 OX6 OG6 O6
    go_wp2_with fail
    refine (markAgeS_calls 1 L _ OX7 (by omega) (by omega) (by omega)).mono ?_
    rintro e w8 ⟨rfl, _, G8⟩
    have xlt := OX.lt
    have wlt := OW.lt
    have glt := OG.lt
    have s2 := B3.size
    have s3 := BG.size
    have B08 : Below w.heap.size w w8 := B07.grown G8 B07.size (fun g hg => by have := xlt g hg; have := B02.size; omega)
    have OW8 := own_grown OW7 G8 (fun g hg e => by have := xlt g hg; have := wlt g e; omega)
    have OG8 := own_grown OG7 G8 (fun g hg e => by have := xlt g hg; have := glt g e; omega)
    clear OW7 OX7 OG7 G8
    go_wp2_with fail
    refine (eqAgeS_calls _ _ _ _ _ _ _ (Rd.recap (RdA_of_own OG8) pG qG rG) (Rd.recap (RdA_of_own OW8) pW qW rW)).mono ?_
    rintro e w9 ⟨rfl, B9⟩
    have B09 := B08.trans (B9.mono B08.size)
    have OW9 := own_below OW8 B9
    have OG9 := own_below OG8 B9
    clear OW8 OG8
    go_wp2_with fail
    refine (markAgeS_calls 1 _ _ OG9 (by omega) (by omega) (by omega)).mono ?_
    rintro e w10 ⟨rfl, OM10, G10⟩
    have B10 : Below w.heap.size w w10 := B09.grown G10 B09.size (fun g hg => by have := glt g hg; have := B03.size; omega)
    have OW10 := own_grown OW9 G10 (fun g hg e => by have := glt g hg; have := wlt g e; omega)
    clear OW9 OG9 G10
    go_wp2_with fail
    refine (heldAgeS_calls 1 _ OM10 (by omega) (by omega) (by omega)).mono ?_
    rintro e w11 ⟨rfl, B11'⟩
    have B11 := B10.trans (B11'.mono B10.size)
    have OW11 := own_below OW10 B11'
    have OM11 := own_below OM10 B11'
    clear OW10 OM10
    go_wp2_with fail
    refine (toAgeS_calls ao n cap L w11 (h.below B11) (by omega)).mono ?_
    rintro e w12 ⟨v, rfl, a12, c12, rfl, O12, B12'⟩
    have B12 := B11.trans (B12'.mono B11.size)
    have OW12 := own_below OW11 B12'
    have OM12 := own_below OM11 B12'
    have R12 := RdA_of_own O12
    clear OW11 OM11 O12
    go_wp2_with fail
    refine (HI.out a12 c12 w12 R12).mono ?_
    rintro e w13 ⟨aH, cH, dH, rfl, pH, qH, rH, OH, BH⟩
    have B13 := B12.trans (BH.mono B12.size)
    have OW13 := own_below OW12 BH
    have OM13 := own_below OM12 BH
    clear OW12 OM12
    go_wp2_with fail
    refine (eqAgeS_calls _ _ _ _ _ _ _ (Rd.recap (RdA_of_own OH) pH qH rH) (Rd.recap (RdA_of_own OW13) pW qW rW)).mono ?_
    rintro e w14 ⟨rfl, B14'⟩
    have B14 := B13.trans (B14'.mono B13.size)
    have OM14 := own_below OM13 B14'
    clear OW13 OM13 OH
    go_wp2_with fail
    refine (heldAgeS_calls 1 _ OM14 (by omega) (by omega) (by omega)).mono ?_
    rintro e w15 ⟨rfl, B15'⟩
    have B15 := B14.trans (B15'.mono B14.size)
    clear OM14 OW OX OG
    go_wp2
    go_ret
    exact ⟨rfl, B15⟩

set_option maxHeartbeats 1000000 in
theorem fnExactEndedConns_walk (ao : Option Addr) (n cap : Nat) (L : Nat → Ag) (now : Int) (life : Int) (rest : Int) (w : World) (h : RdA w ao n cap L) (_h0 : -9223372036854775808 ≤ now ∧ now ≤ 9223372036854775807) (_h1 : -9223372036854775808 ≤ life ∧ life ≤ 9223372036854775807) (_h2 : -9223372036854775808 ≤ rest ∧ rest ≤ 9223372036854775807) : Calls Try.prog 16 #[.slice ao n cap, .int .i64 now, .int .i64 life, .int .i64 rest] w (SaysTrue w) := by
  have hlen := h.len
  clear _h0 _h1 _h2
  by_cases hn : 1048576 < n
  · go_enter Try.func16, Try.ntmps16
    go_wp2_with (go_at_call 20; refine (szAgeS_neg _ _ _ _ _ hlen (by omega) (by omega)).mono ?_; rintro e w' ⟨rfl, rfl⟩)
    go_ret
    exact ⟨rfl, Below.refl _ _⟩
  · have I : ∀ (ao : Option Addr) (cap : Nat) (w : World), RdA w ao n cap L → Calls Try.prog 30 #[.slice ao n cap, .int .i64 now, .int .i64 life, .int .i64 rest] w (IntsC w (endedN L n now life rest) (endedConns L n now life rest)) := fun ao cap w h => implEndedConns_own ao n cap L now life rest w h
    have S : ∀ (ao : Option Addr) (cap : Nat) (w : World), RdA w ao n cap L → Calls Try.prog 35 #[.slice ao n cap, .int .i64 now, .int .i64 life, .int .i64 rest] w (IntsC w (endedN L n now life rest) (endedConns L n now life rest)) := fun ao cap w h => specEndedConns_own ao n cap L now life rest w h
    have hk : endedN L n now life rest ≤ 1048576 := by have := endedN_le L n now life rest; omega
    generalize endedN L n now life rest = N at I S hk
    generalize endedConns L n now life rest = Z at I S hk
    have HI := Lib.hid I
    have HS := Lib.hid S
    clear I S
    go_enter Try.func16, Try.ntmps16
    go_wp2_with (go_at_call 20; refine (szAgeS_calls _ _ _ _ _ hlen (by omega) (by omega)).mono ?_; rintro e w' ⟨rfl, rfl⟩)
    refine (toAgeS_calls ao n cap L w h (by omega)).mono ?_
    rintro e w1 ⟨v, rfl, a1, c1, rfl, O1, B1⟩
    have R1 := RdA_of_own O1
    clear O1
    go_wp2_with fail
    refine (HS.out a1 c1 w1 R1).mono ?_
    rintro e w2 ⟨hzW, aW, cW, dW, rfl, pW, qW, rW, OW, BW⟩
    have B02 := B1.trans (BW.mono B1.size)
    clear R1
    go_wp2_with fail
    refine (toAgeS_calls ao n cap L w2 (h.below B02) (by omega)).mono ?_
    rintro e w3 ⟨v, rfl, ax, cx, rfl, OX, B3⟩
    have B03 := B02.trans (B3.mono B02.size)
    go_wp2_with fail
    refine (HI.out ax cx w3 (RdA_of_own OX)).mono ?_
    rintro e w4 ⟨hzG, aG, cG, dG, rfl, pG, qG, rG, OG, BG⟩
    have B04 := B03.trans (BG.mono B03.size)
    have OW4 := own_below (own_below OW B3) BG
    have OX4 := own_below OX BG
    go_wp2_with fail
    refine (eqIntS_calls _ _ _ _ _ _ _ (Rd.recap (RdI_of_ownL hzG OG) pG qG rG) (Rd.recap (RdI_of_ownL hzG OW4) pW qW rW)).mono ?_
    rintro e w5 ⟨rfl, B5⟩
    have B05 := B04.trans (B5.mono B04.size)
    have OW5 := own_below OW4 B5
    have OX5 := own_below OX4 B5
    have OG5 := own_below OG B5
    clear OW4 OX4
    go_wp2_with fail
    refine (toAgeS_calls ao n cap L w5 (h.below B05) (by omega)).mono ?_
    rintro e w6 ⟨v, rfl, a6, c6, rfl, O6, B6⟩
    have B06 := B05.trans (B6.mono B05.size)
    have OW6 := own_below OW5 B6
    have OX6 := own_below OX5 B6
    have OG6 := own_below OG5 B6
    clear OW5 OX5 OG5
    go_wp2_with fail
    refine (eqAgeS_calls _ _ _ _ _ _ _ (RdA_of_own OX6) (RdA_of_own O6)).mono ?_
    rintro e w7 ⟨rfl, B7⟩
    have B07 := B06.trans (B7.mono B06.size)
    have OW7 := own_below OW6 B7
    have OX7 := own_below OX6 B7
    have OG7 := own_below OG6 B7
    clear OW6 OX6 OG6 O6
    go_wp2_with fail
    refine (markAgeS_calls 1 L _ OX7 (by omega) (by omega) (by omega)).mono ?_
    rintro e w8 ⟨rfl, _, G8⟩
    have xlt := OX.lt
    have wlt := OW.lt
    have glt := OG.lt
    have s2 := B3.size
    have s3 := BG.size
    have B08 : Below w.heap.size w w8 := B07.grown G8 B07.size (fun g hg => by have := xlt g hg; have := B02.size; omega)
    have OW8 := own_grown OW7 G8 (fun g hg e => by have := xlt g hg; have := wlt g e; omega)
    have OG8 := own_grown OG7 G8 (fun g hg e => by have := xlt g hg; have := glt g e; omega)
    clear OW7 OX7 OG7 G8
    go_wp2_with fail
    refine (eqIntS_calls _ _ _ _ _ _ _ (Rd.recap (RdI_of_ownL hzG OG8) pG qG rG) (Rd.recap (RdI_of_ownL hzG OW8) pW qW rW)).mono ?_
    rintro e w9 ⟨rfl, B9⟩
    have B09 := B08.trans (B9.mono B08.size)
    have OW9 := own_below OW8 B9
    have OG9 := own_below OG8 B9
    clear OW8 OG8
    go_wp2_with fail
    refine (markIntS_calls 1 _ OG9 (by omega) (by omega) (by omega)).mono ?_
    rintro e w10 ⟨rfl, OM10, G10⟩
    have B10 : Below w.heap.size w w10 := B09.grown G10 B09.size (fun g hg => by have := glt g hg; have := B03.size; omega)
    have OW10 := own_grown OW9 G10 (fun g hg e => by have := glt g hg; have := wlt g e; omega)
    clear OW9 OG9 G10
    go_wp2_with fail
    refine (heldIntS_calls 1 _ OM10 (by omega) (by omega) (by omega)).mono ?_
    rintro e w11 ⟨rfl, B11'⟩
    have B11 := B10.trans (B11'.mono B10.size)
    have OW11 := own_below OW10 B11'
    have OM11 := own_below OM10 B11'
    clear OW10 OM10
    go_wp2_with fail
    refine (toAgeS_calls ao n cap L w11 (h.below B11) (by omega)).mono ?_
    rintro e w12 ⟨v, rfl, a12, c12, rfl, O12, B12'⟩
    have B12 := B11.trans (B12'.mono B11.size)
    have OW12 := own_below OW11 B12'
    have OM12 := own_below OM11 B12'
    have R12 := RdA_of_own O12
    clear OW11 OM11 O12
    go_wp2_with fail
    refine (HI.out a12 c12 w12 R12).mono ?_
    rintro e w13 ⟨hzH, aH, cH, dH, rfl, pH, qH, rH, OH, BH⟩
    have B13 := B12.trans (BH.mono B12.size)
    have OW13 := own_below OW12 BH
    have OM13 := own_below OM12 BH
    clear OW12 OM12
    go_wp2_with fail
    refine (eqIntS_calls _ _ _ _ _ _ _ (Rd.recap (RdI_of_ownL hzG OH) pH qH rH) (Rd.recap (RdI_of_ownL hzG OW13) pW qW rW)).mono ?_
    rintro e w14 ⟨rfl, B14'⟩
    have B14 := B13.trans (B14'.mono B13.size)
    have OM14 := own_below OM13 B14'
    clear OW13 OM13 OH
    go_wp2_with fail
    refine (heldIntS_calls 1 _ OM14 (by omega) (by omega) (by omega)).mono ?_
    rintro e w15 ⟨rfl, B15'⟩
    have B15 := B14.trans (B15'.mono B14.size)
    clear OM14 OW OX OG
    go_wp2
    go_ret
    exact ⟨rfl, B15⟩

end Go.Proofs.Ytmkpdcikpjpeaaa
