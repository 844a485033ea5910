/- The walks of FnMeanLeased, FnMeanLeasedMore. -/
import Derived.Test.YthbemokpdcipaaaLeaseLaws2
namespace Go.Proofs.Ythbemokpdcipaaa
open Go.ChangeShapes Go.WideShapes Go.ChangeAt Go.RowKit
set_option linter.unusedVariables false

theorem mean_bad {L : Nat → Lz} {n : Nat} {u : Int} (h : (vL L n && inB 1 1000 u) = false) : meanLeased L n u = -1 := by simp only [meanLeased, h]; rfl
theorem mean_good {L : Nat → Lz} {n : Nat} {u : Int} (h : (vL L n && inB 1 1000 u) = true) : meanLeased L n u = 100 * sumL L u n / u := by simp only [meanLeased, h]; rfl
theorem mean_nonneg {L : Nat → Lz} {n : Nat} {u : Int} (h : vL L n = true) (hu : 1 ≤ u) : 0 ≤ 100 * sumL L u n / u ∧ 100 * sumL L u n / u ≤ 1200000 := by
  have h1 := sumL_bounds h u n (Nat.le_refl _)
  have h2 := (vL_facts h).2
  refine ⟨Int.ediv_nonneg (by omega) (by omega), ?_⟩
  have : 100 * sumL L u n / u ≤ 100 * sumL L u n := Int.ediv_le_self _ (by omega)
  omega
theorem meanNil {u : Int} (w : World) (hu : inB 1 1000 u = true) : Calls Try.prog 23 #[.slice none 0 0, .int .i64 u] w fun e w' => e = .returned (.int .i64 0) ∧ Below w.heap.size w w' :=
  implMean_v (L := fun _ => default) (n := 0) (by rw [mean_good (by simp [vL, okL, hu])]; simp [sumL]) (Rd.nil _ _ _)

set_option maxHeartbeats 800000 in
theorem fnMeanLeased_walk (ao : Option Addr) (n cap : Nat) (c : Nat → Int) (w : World) (h : Code8 w ao n cap c) : Calls Try.prog 11 #[.slice ao n cap] w (SaysTrue w) := by
  have hcap := code_len h
  by_cases hn : 1048576 < n
  · go_enter Try.func11, Try.ntmps11
    go_wp2
    go_ret
    exact ⟨rfl, Below.refl _ _⟩
  · go_enter Try.func11, Try.ntmps11
    go_wp2_with fail
    refine (drawMeanLeased_calls ao n cap c w h).mono ?_
    rintro e w1 ⟨L, m, a, cp, u, rfl, hm, hx, R1, B1⟩
    have D1 := Below.refl w1.heap.size w1
    have hml := R1.len
    cases hv : (vL L m && inB 1 1000 u)
    · have HM := Lib.hid (mean_bad hv)
      clear hv
      go_wp2_with fail
      refine (implMean_v HM.out R1).mono ?_
      rintro e w2 ⟨rfl, hb2⟩
      have D2 := D1.trans (hb2.mono D1.size)
      go_wp2_with fail
      refine (specMean_v HM.out (R1.below D2)).mono ?_
      rintro e w3 ⟨rfl, hb3⟩
      have D3 := D2.trans (hb3.mono D2.size)
      go_wp2_with fail
      refine (specMean_v HM.out (R1.below D3)).mono ?_
      rintro e w4 ⟨rfl, hb4⟩
      have D4 := D3.trans (hb4.mono D3.size)
      go_wp2
      go_ret
      exact ⟨rfl, B1.trans (D4.mono B1.size)⟩
    · have HM := Lib.hid (mean_good hv)
      simp only [Bool.and_eq_true] at hv
      obtain ⟨hv, hi⟩ := hv
      obtain ⟨hu1, hu2⟩ := inB_yes hi
      obtain ⟨uN, rfl⟩ : ∃ k : Nat, u = (k : Int) := ⟨u.toNat, by omega⟩
      have hQ := mean_nonneg (u := (uN : Int)) hv hu1
      have hQM := mean_most hv uN (by omega)
      have hall := allL_sum hv uN
      have hmo := mostL_le L m m
      have hm12 := (vL_facts hv).2
      have HO := Lib.hid (most_good hv)
      have HB := Lib.hid (fun t => busyAt_len hv t)
      have hbd : ∀ k : Nat, k ≤ 1000 → 0 ≤ allL L m k ∧ allL L m k ≤ 12000 := by
        intro k hk
        have h1 := allL_bounds L m k
        have h2 : (k : Int) * (m : Int) ≤ (k : Int) * 12 := Int.mul_le_mul_of_nonneg_left (by omega) (by omega)
        omega
      have HBD := Lib.hid hbd
      have hq1 : ((100 * allL L m uN).tdiv (uN : Int)) = 100 * sumL L (uN : Int) m / (uN : Int) := by
        rw [← hall]; exact div_pos_eq (by have := hbd uN (by omega); omega) hu1
      have hq2 : 100 * allL L m uN / (uN : Int) = 100 * sumL L (uN : Int) m / (uN : Int) := by rw [hall]
      generalize 100 * sumL L (uN : Int) m / (uN : Int) = Q at *
      have HQ1 := Lib.hid hq1
      have HQ2 := Lib.hid hq2
      clear hv hi hbd hall hq1 hq2 hx
      have n0 : ¬ Q < 0 := by omega
      go_wp2_with fail
      refine (implMean_v HM.out R1).mono ?_
      rintro e w2 ⟨rfl, hb2⟩
      have D2 := D1.trans (hb2.mono D1.size)
      go_wp2_with fail
      refine (specMean_v HM.out (R1.below D2)).mono ?_
      rintro e w3 ⟨rfl, hb3⟩
      have D3 := D2.trans (hb3.mono D2.size)
      go_wp2
      go_loopw [6, 7] (fun q i wr => ∃ k : Nat, k ≤ uN ∧ i = .int .i64 k ∧ q = .int .i64 (allL L m k) ∧ Below w3.heap.size w3 wr) (fun _ i _ => uN - (intOf i).toNat)
      case atStart => exact ⟨0, Nat.zero_le _, rfl, rfl, Below.refl _ _⟩
      case round =>
        obtain ⟨k, hk, rfl, rfl, hB⟩ := hrel
        have D4 := D3.trans (hB.mono D3.size)
        have hb1 := HBD.out k (by omega)
        by_cases hlt : k < uN
        · have i0 : (k : Int) < (uN : Int) := by omega
          have hcl := cntAt_le L (k : Int) m
          have HS := Lib.hid (show allL L m (k + 1) = allL L m k + (cntAt L (k : Int) m : Int) from rfl)
          have HL := Lib.hid (HB.out (k : Int))
          generalize cntAt L (k : Int) m = C at *
          have w1 : IntKind.i64.wrap (allL L m k + (C : Int)) = allL L m k + (C : Int) := IntWalk.i64_in _ (by omega)
          go_wp2_with fail
          refine (implBusy_n HL.out (R1.below D4)).mono ?_
          rintro e w4 ⟨a4, c4, rfl, hb4⟩
          have hB4 := hB.trans (hb4.mono hB.size)
          go_wp2
          go_roundw
          case rel => exact ⟨k + 1, by omega, by go_num, by rw [HS.out], hB4⟩
          case measure => simp [intOf]; omega
        · obtain rfl : k = uN := by omega
          have hMM : Q ≤ 100 * ((mostL L m m : Nat) : Int) := hQM
          have w1 : IntKind.i64.wrap (100 * ((mostL L m m : Nat) : Int)) = 100 * ((mostL L m m : Nat) : Int) := IntWalk.i64_in _ (by omega)
          have w2 : IntKind.i64.wrap (100 * allL L m k) = 100 * allL L m k := IntWalk.i64_in _ (by omega)
          go_wp2_with fail
          refine (implMost_v HO.out (R1.below D4)).mono ?_
          rintro e w5 ⟨rfl, hb5⟩
          have D5 := D4.trans (hb5.mono D4.size)
          go_wp2
          go_ret
          exact ⟨ret_bool (by first | rfl | (rw [HQ1.out]; simp) | (rw [HQ2.out]; simp)), B1.trans (D5.mono B1.size)⟩

set_option maxHeartbeats 800000 in
theorem fnMeanLeasedMore_walk (ao : Option Addr) (n cap : Nat) (c : Nat → Int) (w : World) (h : Code8 w ao n cap c) : Calls Try.prog 7 #[.slice ao n cap] w (SaysTrue w) := by
  have hcap := code_len h
  by_cases hn : 1048576 < n
  · go_enter Try.func7, Try.ntmps7
    go_wp2
    go_ret
    exact ⟨rfl, Below.refl _ _⟩
  · go_enter Try.func7, Try.ntmps7
    go_wp2_with fail
    refine (drawMeanLeased_calls ao n cap c w h).mono ?_
    rintro e w1 ⟨L, m, a, cp, u, rfl, hm, hx, R1, B1⟩
    have D1 := Below.refl w1.heap.size w1
    have hml := R1.len
    cases hv : (vL L m && inB 1 1000 u)
    · have HM := Lib.hid (mean_bad hv)
      clear hv
      go_wp2_with fail
      refine (implMean_v HM.out R1).mono ?_
      rintro e w2 ⟨rfl, hb2⟩
      have D2 := D1.trans (hb2.mono D1.size)
      go_wp2_with fail
      refine (specMean_v HM.out (R1.below D2)).mono ?_
      rintro e w3 ⟨rfl, hb3⟩
      have D3 := D2.trans (hb3.mono D2.size)
      go_wp2_with fail
      refine (specMean_v HM.out (R1.below D3)).mono ?_
      rintro e w4 ⟨rfl, hb4⟩
      have D4 := D3.trans (hb4.mono D3.size)
      go_wp2
      go_ret
      exact ⟨rfl, B1.trans (D4.mono B1.size)⟩
    · have HM := Lib.hid (mean_good hv)
      simp only [Bool.and_eq_true] at hv
      obtain ⟨hv, hi⟩ := hv
      obtain ⟨hu1, hu2⟩ := inB_yes hi
      have hQ := mean_nonneg (u := u) hv hu1
      rcases Nat.eq_zero_or_pos m with h0 | h0
      · subst h0
        generalize 100 * sumL L u 0 / u = Q at *
        have n0 : ¬ Q < 0 := by omega
        clear hv hi
        go_wp2_with fail
        refine (implMean_v HM.out R1).mono ?_
        rintro e w2 ⟨rfl, hb2⟩
        have D2 := D1.trans (hb2.mono D1.size)
        go_wp2_with fail
        refine (specMean_v HM.out (R1.below D2)).mono ?_
        rintro e w3 ⟨rfl, hb3⟩
        have D3 := D2.trans (hb3.mono D2.size)
        go_wp2_with fail
        refine (specMean_v HM.out (R1.below D3)).mono ?_
        rintro e w4 ⟨rfl, hb4⟩
        have D4 := D3.trans (hb4.mono D3.size)
        go_wp2
        go_ret
        exact ⟨rfl, B1.trans (D4.mono B1.size)⟩
      · obtain ⟨m, rfl⟩ : ∃ m', m = m' + 1 := ⟨m - 1, by omega⟩
        have hv2 := vL_le hv (Nat.le_succ m)
        have HM2 := Lib.hid (mean_good (L := L) (n := m) (u := u) (by simp [hv2, hi]))
        have hle := mean_mono hu1 (sumL_step L u m)
        have HI := Lib.hid hi
        obtain ⟨b, off, rfl, hb, _⟩ := R1.pos h0
        have hmc := R1.1
        have hcm := R1.2.1
        unfold maxLen at hcm
        generalize hQ1 : 100 * sumL L u (m + 1) / u = Q at *
        generalize hQ2 : 100 * sumL L u m / u = Q2 at *
        have n0 : ¬ Q < 0 := by omega
        have h0' : ((m : Int) + 1 == 0) = false := by simp; omega
        have i1 : (1 : Int) ≤ (((m + 1 : Nat)) : Int) := by omega
        have i2 : (((m + 1 : Nat)) : Int) ≤ (cp : Int) := by omega
        have RT := fun w' (hb : Below w1.heap.size w1 w') => Rd.take (R1.below hb) (Nat.le_succ m)
        clear hv hi hv2 hQ1 hQ2
        go_wp2_with fail
        refine (implMean_v HM.out R1).mono ?_
        rintro e w2 ⟨rfl, hb2⟩
        have D2 := D1.trans (hb2.mono D1.size)
        go_wp2_with fail
        refine (specMean_v HM.out (R1.below D2)).mono ?_
        rintro e w3 ⟨rfl, hb3⟩
        have D3 := D2.trans (hb3.mono D2.size)
        go_wp2_with fail
        refine (implMean_v HM2.out (RT _ D3)).mono ?_
        rintro e w4 ⟨rfl, hb4⟩
        have D4 := D3.trans (hb4.mono D3.size)
        go_wp2_with fail
        refine (meanNil _ HI.out).mono ?_
        rintro e w5 ⟨rfl, hb5⟩
        have D5 := D4.trans (hb5.mono D4.size)
        go_wp2
        go_ret
        exact ⟨rfl, B1.trans (D5.mono B1.size)⟩
end Go.Proofs.Ythbemokpdcipaaa
