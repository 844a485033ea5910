/- The walks of FnServeTimes, FnServeTimesMost, FnLongestWait. -/
import Derived.Test.YtmabhoglnapgdaaWishLaws3
namespace Go.Proofs.Ytmabhoglnapgdaa
open Go.ChangeShapes Go.WideShapes Go.ChangeAt Go.RowKit
set_option linter.unusedVariables false

set_option maxHeartbeats 1000000 in
theorem fnServeTimes_walk (ao : Option Addr) (n cap : Nat) (c : Nat → Int) (w : World) (h : Code8 w ao n cap c) : Calls Try.prog 6 #[.slice ao n cap] w (SaysTrue w) := by
  have hcap := code_len h
  by_cases hn : 1048576 < n
  · go_enter Try.func6, Try.ntmps6
    go_wp2
    go_ret
    exact ⟨rfl, Below.refl _ _⟩
  · go_enter Try.func6, Try.ntmps6
    go_wp2_with fail
    refine (drawServeTimes_calls ao n cap c w h).mono ?_
    rintro e w1 ⟨L, m, a, k, u, rfl, hm, hu0, hu1, R1, B1⟩
    have D1 := Below.refl w1.heap.size w1
    have hml := R1.len
    cases hk : okS L m u
    · have HK := Lib.hid hk
      clear hk
      go_wp2_with fail
      refine (implServe_bad HK.out R1).mono ?_
      rintro e w2 ⟨ag, cg, rfl, RG, hb2⟩
      have D2 := D1.trans (hb2.mono D1.size)
      go_wp2_with fail
      refine (specServe_bad HK.out (R1.below D2)).mono ?_
      rintro e w3 ⟨sa, cs, rfl, RS3, hb3⟩
      have D3 := D2.trans (hb3.mono D2.size)
      go_wp2_with fail
      refine (equal_at (RG.below hb3) RS3).mono ?_
      rintro e w4 ⟨rfl, hb4⟩
      have D4 := D3.trans (hb4.mono D3.size)
      go_wp2_with fail
      refine (specServe_bad HK.out (R1.below D4)).mono ?_
      rintro e w5 ⟨sa5, cs5, rfl, RS5, hb5⟩
      have D5 := D4.trans (hb5.mono D4.size)
      go_wp2_with fail
      refine (equal_at (((RG.below hb3).below hb4).below hb5) RS5).mono ?_
      rintro e w6 ⟨rfl, hb6⟩
      have D6 := D5.trans (hb6.mono D5.size)
      go_wp2
      go_ret
      exact ⟨rfl, B1.trans (D6.mono B1.size)⟩
    · obtain ⟨q, rfl, hq1, hq6⟩ := okS_nat hk
      have HK := Lib.hid hk
      have HOK := Lib.hid (vW_yes (okS_yes hk).1).1
      clear hk
      go_wp2_with fail
      refine (implServe_good HK.out R1).mono ?_
      rintro e w2 ⟨ag, cg, rfl, RG, hb2⟩
      have D2 := D1.trans (hb2.mono D1.size)
      go_wp2_with fail
      refine (specServe_good HK.out (R1.below D2)).mono ?_
      rintro e w3 ⟨sa, cs, rfl, RS3, hb3⟩
      have D3 := D2.trans (hb3.mono D2.size)
      go_wp2_with fail
      refine (equal_at (RG.below hb3) RS3).mono ?_
      rintro e w4 ⟨rfl, hb4⟩
      have D4 := D3.trans (hb4.mono D3.size)
      rcases Nat.eq_zero_or_pos m with h0 | h0
      · subst h0
        go_wp2_with fail
        refine (specServe_good HK.out (R1.below D4)).mono ?_
        rintro e w5 ⟨sa5, cs5, rfl, RS5, hb5⟩
        have D5 := D4.trans (hb5.mono D4.size)
        go_wp2_with fail
        refine (equal_at (((RG.below hb3).below hb4).below hb5) RS5).mono ?_
        rintro e w6 ⟨rfl, hb6⟩
        have D6 := D5.trans (hb6.mono D5.size)
        go_wp2
        go_ret
        exact ⟨rfl, B1.trans (D6.mono B1.size)⟩
      · obtain ⟨b, off, rfl, hb, hc⟩ := (R1.below D4).pos h0
        obtain ⟨b2, o2, rfl, hbb, hg⟩ := ((RG.below hb3).below hb4).pos h0
        have h0' : ((m : Int) == 0) = false := by simp; omega
        clear RG RS3 R1
        go_wp2
        go_loopw [6] (fun i wr => ∃ j : Nat, j ≤ m ∧ i = .int .i64 j ∧ Below w4.heap.size w4 wr) (fun i _ => m - (intOf i).toNat)
        case atStart => exact ⟨0, Nat.zero_le _, rfl, Below.refl _ _⟩
        case round =>
          obtain ⟨j, hj, rfl, hB⟩ := hrel
          by_cases hlt : j < m
          · have g0 := (hB.cell (p := ⟨b2, o2 + j, none⟩) hbb).trans (hg j hlt)
            have c0 := (hB.cell (p := ⟨b, off + j * 3, none⟩) hb).trans (hc j hlt).1
            have c2 := (hB.cell (p := ⟨b, off + j * 3 + 2, none⟩) hb).trans (hc j hlt).2.2
            have hf := outW_facts HOK.out q j hlt
            have wf := okW_facts HOK.out j hlt
            have i0 : (j : Int) < (m : Int) := by omega
            have i1 : decide (m ≤ j) = false := by simp; omega
            have hw : IntKind.i64.wrap ((L j).at_ + (L j).pat) = (L j).at_ + (L j).pat := IntWalk.i64_in _ (by omega)
            clear hg hc
            generalize outW L q j = x at *
            rcases hf with rfl | ⟨hf1, hf2⟩
            · go_wp2
              go_quiet (fail)
              go_wp2
              go_roundw
              case rel => exact ⟨j + 1, by omega, by go_num, below_drewN hB _⟩
              case measure => simp [intOf]; omega
            · have e0 : (x != -1) = true := by simp; omega
              have e1 : decide (x < (L j).at_) = false := by simp; omega
              have e2 : decide ((L j).at_ + (L j).pat < x) = false := by simp; omega
              go_wp2
              go_quiet (fail)
              go_wp2
              go_roundw
              case rel => exact ⟨j + 1, by omega, by go_num, below_drewN hB _⟩
              case measure => simp [intOf]; omega
          · obtain rfl : j = m := by omega
            have g0 := (hB.cell (p := ⟨b2, o2 + 0, none⟩) hbb).trans (hg 0 h0)
            have c0 := (hB.cell (p := ⟨b, off + 0 * 3, none⟩) hb).trans (hc 0 h0).1
            have i0 : (0 : Int) < (j : Int) := by omega
            have he := outW_first HOK.out q h0
            rw [he] at g0
            simp only [Nat.zero_mul, Nat.add_zero] at g0 c0
            clear he hg hc
            go_wp2
            go_quiet (fail)
            go_wp2
            go_ret
            exact ⟨rfl, B1.trans ((D4.trans ((below_drewN hB _).mono D4.size)).mono B1.size)⟩

theorem act_yes {L : Nat → Wi} {m k : Nat} {T : Int} (h1 : 0 ≤ outW L m k) (h2 : outW L m k ≤ T) (h3 : T < outW L m k + (L k).hold) : actW L m T (k + 1) = actW L m T k + 1 := by simp [actW, h1, h2, h3]
theorem act_no {L : Nat → Wi} {m k : Nat} {T : Int} (h : ¬ (0 ≤ outW L m k ∧ outW L m k ≤ T ∧ T < outW L m k + (L k).hold)) : actW L m T (k + 1) = actW L m T k := by rw [actW, if_neg h]; rfl
theorem actW_lek (L : Nat → Wi) (m : Nat) (T : Int) (k : Nat) : actW L m T k ≤ k := by
  induction k with
  | zero => simp [actW]
  | succ k ih => simp only [actW]; split <;> omega

set_option maxHeartbeats 1000000 in
theorem fnServeTimesMost_walk (ao : Option Addr) (n cap : Nat) (c : Nat → Int) (w : World) (h : Code8 w ao n cap c) : Calls Try.prog 7 #[.slice ao n cap] w (SaysTrue w) := by
  have hcap := code_len h
  by_cases hn : 1048576 < n
  · go_enter Try.func7, Try.ntmps7
    go_wp2
    go_ret
    exact ⟨rfl, Below.refl _ _⟩
  · go_enter Try.func7, Try.ntmps7
    go_wp2_with fail
    refine (drawServeTimes_calls ao n cap c w h).mono ?_
    rintro e w1 ⟨L, m, a, k, u, rfl, hm, hu0, hu1, R1, B1⟩
    have D1 := Below.refl w1.heap.size w1
    have hml := R1.len
    cases hk : okS L m u
    · have HK := Lib.hid hk
      clear hk
      go_wp2_with fail
      refine (implServe_bad HK.out R1).mono ?_
      rintro e w2 ⟨ag, cg, rfl, RG, hb2⟩
      have D2 := D1.trans (hb2.mono D1.size)
      go_wp2_with fail
      refine (specServe_bad HK.out (R1.below D2)).mono ?_
      rintro e w3 ⟨sa, cs, rfl, RS3, hb3⟩
      have D3 := D2.trans (hb3.mono D2.size)
      go_wp2_with fail
      refine (equal_at (RG.below hb3) RS3).mono ?_
      rintro e w4 ⟨rfl, hb4⟩
      have D4 := D3.trans (hb4.mono D3.size)
      rcases Nat.eq_zero_or_pos m with h0 | h0
      · subst h0
        go_wp2
        refine wp_loop_rounds 1 ?_
        rw [rounds_succ]
        go_wp2
        go_ret
        exact ⟨rfl, B1.trans (D4.mono B1.size)⟩
      · have h0' : ((0 : Int) != (m : Int)) = true := by simp; omega
        go_wp2_with fail
        refine (specServe_bad HK.out (R1.below D4)).mono ?_
        rintro e w5 ⟨sa5, cs5, rfl, RS5, hb5⟩
        have D5 := D4.trans (hb5.mono D4.size)
        go_wp2_with fail
        refine (equal_at (((RG.below hb3).below hb4).below hb5) RS5).mono ?_
        rintro e w6 ⟨rfl, hb6⟩
        have D6 := D5.trans (hb6.mono D5.size)
        go_wp2
        go_ret
        exact ⟨rfl, B1.trans (D6.mono B1.size)⟩
    · obtain ⟨q, rfl, hq1, hq6⟩ := okS_nat hk
      have HK := Lib.hid hk
      have HOK := Lib.hid (vW_yes (okS_yes hk).1).1
      clear hk
      go_wp2_with fail
      refine (implServe_good HK.out R1).mono ?_
      rintro e w2 ⟨ag, cg, rfl, RG, hb2⟩
      have D2 := D1.trans (hb2.mono D1.size)
      go_wp2_with fail
      refine (specServe_good HK.out (R1.below D2)).mono ?_
      rintro e w3 ⟨sa, cs, rfl, RS3, hb3⟩
      have D3 := D2.trans (hb3.mono D2.size)
      go_wp2_with fail
      refine (equal_at (RG.below hb3) RS3).mono ?_
      rintro e w4 ⟨rfl, hb4⟩
      have D4 := D3.trans (hb4.mono D3.size)
      have RR := R1.below D4
      have RO := (RG.below hb3).below hb4
      clear RG RS3 R1
      go_wp2
      go_loopw [6] (fun i wr => ∃ j : Nat, j ≤ m ∧ i = .int .i64 j ∧ Below w4.heap.size w4 wr) (fun i _ => m - (intOf i).toNat)
      case atStart => exact ⟨0, Nat.zero_le _, rfl, Below.refl _ _⟩
      case round =>
        obtain ⟨j, hj, rfl, hB⟩ := hrel
        obtain ⟨wo, rfl⟩ : ∃ x, x = wr := ⟨_, rfl⟩
        by_cases hlt : j < m
        · obtain ⟨b, off, rfl, hb, hc⟩ := RR.pos (by omega)
          obtain ⟨b2, o2, rfl, hbb, hg⟩ := RO.pos (by omega)
          have gj := (hB.cell (p := ⟨b2, o2 + j, none⟩) hbb).trans (hg j hlt)
          have bj := outW_bounds HOK.out q j hlt
          have i0 : (j : Int) < (m : Int) := by omega
          have hact := actW_le HOK.out q hq1 (outW L q j)
          have hz := hB.size
          generalize hT : outW L q j = T at *
          by_cases hT0 : 0 ≤ T
          · go_wp2
            go_loopw [7, 8] (fun t i wq => ∃ k : Nat, k ≤ m ∧ i = .int .i64 k ∧ t = .int .i64 (actW L q T k : Nat) ∧ Below wo.heap.size wo wq) (fun _ i _ => m - (intOf i).toNat)
            case atStart => exact ⟨0, Nat.zero_le _, rfl, rfl, Below.refl _ _⟩
            case round =>
              obtain ⟨k, hk, rfl, rfl, hB'⟩ := hrel
              have hBB := hB.trans (hB'.mono hB.size)
              have gj' := (hB'.cell (p := ⟨b2, o2 + j, none⟩) (Nat.lt_of_lt_of_le hbb hz)).trans gj
              have hal := actW_lek L q T k
              by_cases hlk : k < m
              · have gk := (hBB.cell (p := ⟨b2, o2 + k, none⟩) hbb).trans (hg k hlk)
                have ck := (hBB.cell (p := ⟨b, off + k * 3 + 1, none⟩) hb).trans (hc k hlk).2.1
                have bk := outW_bounds HOK.out q k hlk
                have wk := okW_facts HOK.out k hlk
                have i2 : (k : Int) < (m : Int) := by omega
                have hw : IntKind.i64.wrap (outW L q k + (L k).hold) = outW L q k + (L k).hold := IntWalk.i64_in _ (by omega)
                clear hg hc
                rcases chain3 (decide (0 ≤ outW L q k)) (decide (outW L q k ≤ T)) (decide (T < outW L q k + (L k).hold)) with h1 | ⟨h1, h2⟩ | ⟨h1, h2, h3⟩ | ⟨h1, h2, h3⟩
                case inr.inr.inr =>
                  have HS := Lib.hid (act_yes (L := L) (m := q) (k := k) (T := T) (by simpa using h1) (by simpa using h2) (by simpa using h3))
                  go_wp2
                  go_quiet (fail)
                  go_wp2
                  go_roundw
                  case rel => exact ⟨k + 1, by omega, by go_num, by rw [HS.out]; go_num, below_drewN hB' _⟩
                  case measure => simp [intOf]; omega
                all_goals
                  have HS := Lib.hid (act_no (L := L) (m := q) (k := k) (T := T) (by rintro ⟨a1, a2, a3⟩; first | (simp [a1] at h1; done) | (simp [a2] at h2; done) | (simp [a3] at h3; done)))
                  go_wp2
                  go_quiet (fail)
                  go_wp2
                  go_roundw
                  case rel => exact ⟨k + 1, by omega, by go_num, by rw [HS.out], below_drewN hB' _⟩
                  case measure => simp [intOf]; omega
              · obtain rfl : k = m := by omega
                clear hg hc
                go_wp2
                go_roundw
                case rel => exact ⟨j + 1, by omega, by go_num, hBB⟩
                case measure => simp [intOf]; omega
          · go_wp2
            refine wp_loop_rounds 1 ?_
            rw [rounds_succ]
            clear hg hc
            go_wp2
            go_roundw
            case rel => exact ⟨j + 1, by omega, by go_num, hB⟩
            case measure => simp [intOf]; omega
        · obtain rfl : j = m := by omega
          go_wp2
          go_ret
          exact ⟨rfl, B1.trans ((D4.trans (hB.mono D4.size)).mono B1.size)⟩

/-! ### FnLongestWait -/
def maxP (L : Nat → Wi) : Nat → Int
  | 0 => 0
  | k + 1 => max (maxP L k) (L k).pat
theorem maxP_bounds {L : Nat → Wi} {n : Nat} (h : okW L n = true) : ∀ k, k ≤ n → 0 ≤ maxP L k ∧ maxP L k ≤ 100 := by
  intro k
  induction k with
  | zero => intro _; simp [maxP]
  | succ k ih => intro hk; have := ih (by omega); have := okW_facts h k (by omega); simp only [maxP]; omega
theorem long_maxP {L : Nat → Wi} {n : Nat} (h : okW L n = true) (m : Nat) : ∀ k, k ≤ n → longW L m k ≤ maxP L k := by
  intro k
  induction k with
  | zero => intro _; simp [longW, maxP]
  | succ k ih =>
    intro hk
    have h1 := ih (by omega)
    have h2 := okW_facts h k (by omega)
    simp only [longW, maxP]
    split
    · rcases outW_facts h m k (by omega) with h3 | h3 <;> omega
    · omega
def someB (L : Nat → Wi) (m : Nat) (v : Int) : Nat → Bool
  | 0 => v == 0
  | k + 1 => someB L m v k || (outW L m k == (L k).at_ + v)
theorem someB_all {L : Nat → Wi} {m n : Nat} : someB L m (longW L m n) n = true := by
  have hmono : ∀ (v : Int) j k, j ≤ k → someB L m v j = true → someB L m v k = true := by
    intro v j k hjk hj
    induction k with
    | zero => obtain rfl : j = 0 := by omega
              exact hj
    | succ k ih =>
      by_cases e : j = k + 1
      · subst e; exact hj
      · simp [someB, ih (by omega)]
  rcases longW_attained (L := L) (m := m) (n := n) with h | ⟨k, h1, h2, h3⟩
  · exact hmono _ 0 n (by omega) (by simp [someB, h])
  · exact hmono _ (k + 1) n (by omega) (by simp [someB, h3])

set_option maxHeartbeats 1000000 in
theorem fnLongestWait_walk (ao : Option Addr) (n cap : Nat) (c : Nat → Int) (w : World) (h : Code8 w ao n cap c) : Calls Try.prog 11 #[.slice ao n cap] w (SaysTrue w) := by
  have hcap := code_len h
  by_cases hn : 1048576 < n
  · go_enter Try.func11, Try.ntmps11
    go_wp2
    go_ret
    exact ⟨rfl, Below.refl _ _⟩
  · go_enter Try.func11, Try.ntmps11
    go_wp2_with fail
    refine (drawLongestWait_calls ao n cap c w h).mono ?_
    rintro e w1 ⟨L, m, a, k, u, rfl, hm, hu0, hu1, R1, B1⟩
    have D1 := Below.refl w1.heap.size w1
    have hml := R1.len
    cases hk : okS L m u
    · have HE := Lib.hid (show waitS L m u = -1 by simp [waitS, hk])
      clear hk
      go_wp2_with fail
      refine (implLongestWait_v HE.out R1).mono ?_
      rintro e w2 ⟨rfl, hb2⟩
      have D2 := D1.trans (hb2.mono D1.size)
      go_wp2_with fail
      refine (specLongestWait_v HE.out (R1.below D2)).mono ?_
      rintro e w3 ⟨rfl, hb3⟩
      have D3 := D2.trans (hb3.mono D2.size)
      go_wp2_with fail
      refine (specLongestWait_v HE.out (R1.below D3)).mono ?_
      rintro e w4 ⟨rfl, hb4⟩
      have D4 := D3.trans (hb4.mono D3.size)
      go_wp2
      go_ret
      exact ⟨rfl, B1.trans (D4.mono B1.size)⟩
    · obtain ⟨q, rfl, hq1, hq6⟩ := okS_nat hk
      have HE := Lib.hid (waitS_good hk)
      have HK := Lib.hid hk
      have HOK := Lib.hid (vW_yes (okS_yes hk).1).1
      have hl0 := longW_nonneg L q m
      have hl1 := longW_le HOK.out q m (Nat.le_refl _)
      have HSA := Lib.hid (someB_all (L := L) (m := q) (n := m))
      have HLM := Lib.hid (long_maxP HOK.out q m (Nat.le_refl _))
      have HGE := Lib.hid (fun j (hj : j < m) (h0 : 0 ≤ outW L q j) => longW_ge (L := L) (m := q) j hj h0)
      clear hk
      generalize longW L q m = v at *
      go_wp2_with fail
      refine (implLongestWait_v HE.out R1).mono ?_
      rintro e w2 ⟨rfl, hb2⟩
      have D2 := D1.trans (hb2.mono D1.size)
      go_wp2_with fail
      refine (specLongestWait_v HE.out (R1.below D2)).mono ?_
      rintro e w3 ⟨rfl, hb3⟩
      have D3 := D2.trans (hb3.mono D2.size)
      go_wp2
      go_loopw [6, 7] (fun t i wr => ∃ k : Nat, k ≤ m ∧ i = .int .i64 k ∧ t = .int .i64 (maxP L k) ∧ Below w3.heap.size w3 wr) (fun _ i _ => m - (intOf i).toNat)
      case atStart => exact ⟨0, Nat.zero_le _, rfl, rfl, Below.refl _ _⟩
      case round =>
        obtain ⟨j, hj, rfl, rfl, hB⟩ := hrel
        have hpb := maxP_bounds HOK.out j hj
        have D4 := D3.trans (hB.mono D3.size)
        by_cases hlt : j < m
        · obtain ⟨b, off, rfl, hb, hc⟩ := R1.pos (by omega)
          have c2 := (D4.cell (p := ⟨b, off + j * 3 + 2, none⟩) hb).trans (hc j hlt).2.2
          have i0 : (j : Int) < (m : Int) := by omega
          have hst : (if maxP L j < (L j).pat then (L j).pat else maxP L j) = maxP L (j + 1) := by simp only [maxP]; split <;> omega
          clear hc
          go_wp2
          go_roundw
          case rel => exact ⟨j + 1, by omega, by go_num, rfl, by go_grown⟩
          case measure => simp [intOf]; omega
        · obtain rfl : j = m := by omega
          go_wp2_with fail
          refine (implServe_good HK.out (R1.below D4)).mono ?_
          rintro e w5 ⟨ag, cg, rfl, RG, hb5⟩
          have D5 := D4.trans (hb5.mono D4.size)
          have RR := R1.below D5
          have hlm := HLM.out
          go_wp2
          go_loopw [9, 10] (fun t i wq => ∃ k : Nat, k ≤ j ∧ i = .int .i64 k ∧ t = .bool (someB L q v k) ∧ Below w5.heap.size w5 wq) (fun _ i _ => j - (intOf i).toNat)
          case atStart => exact ⟨0, Nat.zero_le _, rfl, rfl, Below.refl _ _⟩
          case round =>
            obtain ⟨k, hk, rfl, rfl, hB'⟩ := hrel
            by_cases hlt' : k < j
            · obtain ⟨b, off, rfl, hb, hc⟩ := RR.pos (by omega)
              obtain ⟨b2, o2, rfl, hbb, hg⟩ := RG.pos (by omega)
              have g0 := (hB'.cell (p := ⟨b2, o2 + k, none⟩) hbb).trans (hg k hlt')
              have c0 := (hB'.cell (p := ⟨b, off + k * 3, none⟩) hb).trans (hc k hlt').1
              have i0 : (k : Int) < (j : Int) := by omega
              have ob := outW_bounds HOK.out q k hlt'
              have wb := okW_facts HOK.out k hlt'
              have hw : IntKind.i64.wrap ((L k).at_ + v) = (L k).at_ + v := IntWalk.i64_in _ (by omega)
              have hle : decide ((L k).at_ + v < outW L q k) = false := by
                simp
                by_cases h0 : 0 ≤ outW L q k
                · have := HGE.out k hlt' h0; omega
                · omega
              have HS := Lib.hid (show someB L q v (k + 1) = (someB L q v k || (outW L q k == (L k).at_ + v)) from rfl)
              clear hc hg
              generalize someB L q v k = sb at *
              cases sb
              · generalize heq : (outW L q k == (L k).at_ + v) = eb at *
                go_wp2
                go_quiet (fail)
                go_wp2
                go_quiet (fail)
                go_wp2
                go_roundw
                case rel => exact ⟨k + 1, by omega, by go_num, by rw [HS.out]; simp, below_drewN hB' _⟩
                case measure => simp [intOf]; omega
              · go_wp2
                go_quiet (fail)
                go_wp2
                go_quiet (fail)
                go_wp2
                go_roundw
                case rel => exact ⟨k + 1, by omega, by go_num, by rw [HS.out]; simp, below_drewN hB' _⟩
                case measure => simp [intOf]; omega
            · obtain rfl : k = j := by omega
              have hsb := HSA.out
              go_wp2
              go_ret
              exact ⟨rfl, B1.trans ((D5.trans (hB'.mono D5.size)).mono B1.size)⟩
end Go.Proofs.Ytmabhoglnapgdaa
