/- The walks of FnPackLeasesTwice, FnPackLeasesFirst. -/
import Derived.Test.YthbemokpdcipaaaPackLaws1
namespace Go.Proofs.Ythbemokpdcipaaa
open Go.ChangeShapes Go.WideShapes Go.ChangeAt Go.RowKit
set_option linter.unusedVariables false

/-- A list in new memory, read, and a bool. -/
def At2L (w : World) (N : Nat) (M : Nat → Lz) (ok : Bool) (e : Ending) (w' : World) : Prop := ∃ a c, e = .returned (.tuple #[.slice a N c, .bool ok]) ∧ RdL w' a N c M ∧ Below w.heap.size w w'
section
variable {ao : Option Addr} {n cap : Nat} {L : Nat → Lz} {w : World}
theorem at2L_of {N : Nat} {M : Nat → Lz} {ok : Bool} {e : Ending} {w' : World} (h : Own2L w N M ok e w') : At2L w N M ok e w' := by
  obtain ⟨a, c, d, rfl, p, q, r, ho, hb⟩ := h
  exact ⟨a, c, rfl, Rd.recap (RdL_of_own ho) p q r, hb⟩
theorem implPack_yes (hk : vL L n = true) (h : RdL w ao n cap L) : Calls Try.prog 14 #[.slice ao n cap] w (At2L w n (packL L n) true) := by
  have := (implPackLeases_own ao n cap L w h).mono fun _ _ h => at2L_of h
  simpa [packN, hk] using this
theorem specPack_yes (hk : vL L n = true) (h : RdL w ao n cap L) : Calls Try.prog 15 #[.slice ao n cap] w (At2L w n (packL L n) true) := by
  have := (specPackLeases_own ao n cap L w h).mono fun _ _ h => at2L_of h
  simpa [packN, hk] using this
theorem implPack_no (hk : vL L n = false) (h : RdL w ao n cap L) : Calls Try.prog 14 #[.slice ao n cap] w (At2L w 0 (packL L n) false) := by
  have := (implPackLeases_own ao n cap L w h).mono fun _ _ h => at2L_of h
  simpa [packN, hk] using this
theorem specPack_no (hk : vL L n = false) (h : RdL w ao n cap L) : Calls Try.prog 15 #[.slice ao n cap] w (At2L w 0 (packL L n) false) := by
  have := (specPackLeases_own ao n cap L w h).mono fun _ _ h => at2L_of h
  simpa [packN, hk] using this
theorem equalL_at {a b : Option Addr} {c d : Nat} {I : Nat → Lz} (h : RdL w a n c I) (h' : RdL w b n d I) : Calls Try.prog 16 #[.slice a n c, .slice b n d] w fun e w' => e = .returned (.bool true) ∧ Below w.heap.size w w' := equalLeases_calls a b n c d I w h h'
end
theorem RdL_twice {w : World} {a : Option Addr} {n c : Nat} {L : Nat → Lz} (h : RdL w a n c (packL (packL L n) n)) : RdL w a n c (packL L n) :=
  Rd.congr h fun i hi j _ => by rw [pack_twice i hi]

set_option maxHeartbeats 800000 in
theorem fnPackLeasesTwice_walk (ao : Option Addr) (n cap : Nat) (c : Nat → Int) (w : World) (h : Code8 w ao n cap c) : Calls Try.prog 4 #[.slice ao n cap] w (SaysTrue w) := by
  have hcap := code_len h
  by_cases hn : 1048576 < n
  · go_enter Try.func4, Try.ntmps4
    go_wp2
    go_ret
    exact ⟨rfl, Below.refl _ _⟩
  · go_enter Try.func4, Try.ntmps4
    go_wp2_with fail
    refine (drawPackLeases_calls ao n cap c w h).mono ?_
    rintro e w1 ⟨L, m, a, cp, rfl, hm, R1, B1⟩
    have D1 := Below.refl w1.heap.size w1
    have hml := R1.len
    cases hk : vL L m
    · have HK := Lib.hid hk
      clear hk
      go_wp2_with fail
      refine (implPack_no HK.out R1).mono ?_
      rintro e w2 ⟨ag, cg, rfl, RG, hb2⟩
      have D2 := D1.trans (hb2.mono D1.size)
      go_wp2_with fail
      refine (specPack_no HK.out (R1.below D2)).mono ?_
      rintro e w3 ⟨sa, cs, rfl, RS3, hb3⟩
      have D3 := D2.trans (hb3.mono D2.size)
      go_wp2_with fail
      refine (equalL_at (RG.below hb3) RS3).mono ?_
      rintro e w4 ⟨rfl, hb4⟩
      have D4 := D3.trans (hb4.mono D3.size)
      go_wp2_with fail
      refine (equalL_at ((RG.below hb3).below hb4) (RS3.below hb4)).mono ?_
      rintro e w5 ⟨rfl, hb5⟩
      have D5 := D4.trans (hb5.mono D4.size)
      go_wp2
      go_ret
      exact ⟨rfl, B1.trans (D5.mono B1.size)⟩
    · have HK := Lib.hid hk
      have HT := Lib.hid (pack_valid hk)
      clear hk
      go_wp2_with fail
      refine (implPack_yes HK.out R1).mono ?_
      rintro e w2 ⟨ag, cg, rfl, RG, hb2⟩
      have D2 := D1.trans (hb2.mono D1.size)
      go_wp2_with fail
      refine (specPack_yes HK.out (R1.below D2)).mono ?_
      rintro e w3 ⟨sa, cs, rfl, RS3, hb3⟩
      have D3 := D2.trans (hb3.mono D2.size)
      have RG3 := RG.below hb3
      go_wp2_with fail
      refine (equalL_at RG3 RS3).mono ?_
      rintro e w4 ⟨rfl, hb4⟩
      have D4 := D3.trans (hb4.mono D3.size)
      have RG4 := RG3.below hb4
      go_wp2_with fail
      refine (implPack_yes HT.out RG4).mono ?_
      rintro e w5 ⟨at5, ct5, rfl, RT, hb5⟩
      have D5 := D4.trans (hb5.mono D4.size)
      have RT := RdL_twice RT
      go_wp2_with fail
      refine (equalL_at RT (RG4.below hb5)).mono ?_
      rintro e w6 ⟨rfl, hb6⟩
      have D6 := D5.trans (hb6.mono D5.size)
      go_wp2
      go_ret
      exact ⟨rfl, B1.trans (D6.mono B1.size)⟩

/-- The law's own tests. -/
def nextT (P : Nat → Lz) (i k : Nat) : Bool := ((P k).conn == (P i).conn - 1) && (decide ((P k).frm ≤ (P i).frm) && decide ((P i).frm < (P k).til))
def someF (P : Nat → Lz) (i : Nat) : Nat → Bool
  | 0 => (P i).conn == 0
  | k + 1 => someF P i k || nextT P i k
def firstF (P : Nat → Lz) : Nat → Bool
  | 0 => false
  | i + 1 => firstF P i || ((P i).conn == 0)
theorem someF_stays {P : Nat → Lz} {i k : Nat} (h : someF P i k = true) : ∀ m, k ≤ m → someF P i m = true := by
  intro m
  induction m with
  | zero => intro hk; obtain rfl : k = 0 := by omega
            exact h
  | succ m ih =>
    intro hk
    by_cases e : k = m + 1
    · subst e; exact h
    · simp only [someF, ih (by omega), Bool.true_or]
theorem someF_all {L : Nat → Lz} {m i : Nat} (h : vL L m = true) (hi : i < m) : someF (packL L m) i m = true := by
  by_cases h0 : (packL L m i).conn = 0
  · exact someF_stays (k := 0) (by simp only [someF]; simpa using h0) m (by omega)
  · obtain ⟨k, h1, h2, h3, h4⟩ := pack_below h hi h0
    refine someF_stays (k := k + 1) ?_ m h1
    have : nextT (packL L m) i k = true := by
      simp only [nextT, Bool.and_eq_true, beq_iff_eq, decide_eq_true_eq]
      exact ⟨h2, h3, h4⟩
    simp only [someF, this, Bool.or_true]
theorem firstF_stays {P : Nat → Lz} {i : Nat} (h : (P i).conn = 0) : ∀ m, i < m → firstF P m = true := by
  intro m
  induction m with
  | zero => intro hk; omega
  | succ m ih =>
    intro hk
    by_cases e : i = m
    · subst e; simp [firstF, h]
    · simp only [firstF, ih (by omega), Bool.true_or]
theorem firstF_all {L : Nat → Lz} {m : Nat} (h : vL L m = true) (hm : 0 < m) : firstF (packL L m) m = true := by
  obtain ⟨i, h1, h2⟩ := pack_first h hm
  exact firstF_stays h2 m h1
theorem someF_step {P : Nat → Lz} {i k : Nat} {a b : Bool} (h : someF P i k = a) (h2 : nextT P i k = b) : someF P i (k + 1) = (a || b) := by simp only [someF, h, h2]
theorem firstF_step {P : Nat → Lz} {i : Nat} {a b : Bool} (h : firstF P i = a) (h2 : ((P i).conn == 0) = b) : firstF P (i + 1) = (a || b) := by simp only [firstF, h, h2]
end Go.Proofs.Ythbemokpdcipaaa
