/- The walks of FnEndedConnsLater, FnEndedConnsLife. -/
import Derived.Test.YtmkpdcikpjpeaaaAgeLaws3
namespace Go.Proofs.Ytmkpdcikpjpeaaa
open Go.ChangeShapes Go.WideShapes Go.ChangeAt Go.RowKit
set_option linter.unusedVariables false

theorem ended_args {L : Nat → Ag} {n : Nat} {now life rest : Int} {x : Int} (h : x ∈ endedConns L n now life rest) : argsA L n life rest = true ∧ 0 ≤ now ∧ now ≤ 1000 := by
  cases hc : (vA L n && inB 0 1000 now && inB 1 1000 life && inB 1 1000 rest)
  · rw [ended_no hc] at h; simp at h
  · simp only [Bool.and_eq_true] at hc
    have := inB_yes hc.1.1.2
    exact ⟨by simp [argsA, hc.1.1.1, hc.1.2, hc.2], this.1, this.2⟩
theorem ended_later {L : Nat → Ag} {n : Nat} {now now' life rest x : Int} (h : x ∈ endedConns L n now life rest) (h1 : now ≤ now') (h2 : now' ≤ 1000) : x ∈ endedConns L n now' life rest := by
  obtain ⟨ha, b1, b2⟩ := ended_args h
  rw [endedConns_good ha b1 b2] at h
  rw [endedConns_good ha (by omega) h2]
  obtain ⟨k, a, b, c⟩ := endedL_mem.1 h
  exact endedL_mem.2 ⟨k, a, b, by omega⟩
theorem ended_life {L : Nat → Ag} {n : Nat} {now life rest x : Int} (h : x ∈ endedConns L n now (life + 1) rest) (h1 : 1 ≤ life) : x ∈ endedConns L n now life rest := by
  obtain ⟨ha, b1, b2⟩ := ended_args h
  obtain ⟨hv, c1, c2, c3, c4⟩ := argsA_yes ha
  have ha' : argsA L n life rest = true := by simp only [argsA, hv, Bool.true_and, Bool.and_eq_true]; exact ⟨inB_mk (by omega), inB_mk ⟨c3, c4⟩⟩
  rw [endedConns_good ha b1 b2] at h
  rw [endedConns_good ha' b1 b2]
  obtain ⟨k, a, b, c⟩ := endedL_mem.1 h
  refine endedL_mem.2 ⟨k, a, b, ?_⟩
  have := lifeOf_mono (c := k) (life := life) (by have := (vA_facts hv).1; omega) h1 (by omega)
  unfold endA at *; omega
theorem ended_rest {L : Nat → Ag} {n : Nat} {now life rest x : Int} (h : x ∈ endedConns L n now life (rest + 1)) (h1 : 1 ≤ rest) : x ∈ endedConns L n now life rest := by
  obtain ⟨ha, b1, b2⟩ := ended_args h
  obtain ⟨hv, c1, c2, c3, c4⟩ := argsA_yes ha
  have ha' : argsA L n life rest = true := by simp only [argsA, hv, Bool.true_and, Bool.and_eq_true]; exact ⟨inB_mk ⟨c1, c2⟩, inB_mk (by omega)⟩
  rw [endedConns_good ha b1 b2] at h
  rw [endedConns_good ha' b1 b2]
  obtain ⟨k, a, b, c⟩ := endedL_mem.1 h
  refine endedL_mem.2 ⟨k, a, b, ?_⟩
  unfold endA at *; omega

set_option maxHeartbeats 800000 in
theorem fnEndedConnsLater_walk (ao : Option Addr) (n cap : Nat) (c : Nat → Int) (w : World) (h : Code8 w ao n cap c) : Calls Try.prog 13 #[.slice ao n cap] w (SaysTrue w) := by
  have hcap := code_len h
  by_cases hn : 1048576 < n
  · go_enter Try.func13, Try.ntmps13
    go_wp2
    go_ret
    exact ⟨rfl, Below.refl _ _⟩
  · go_enter Try.func13, Try.ntmps13
    go_wp2_with fail
    refine (drawEndedConns_calls ao n cap c w h).mono ?_
    rintro e w1 ⟨L, m, a, cp, now, life, rest, rfl, hm, hx, hy, hz, R1, B1⟩
    have D1 := Below.refl w1.heap.size w1
    have hml := R1.len
    obtain ⟨zs, hzs⟩ : ∃ zs, endedConns L m now life rest = zs := ⟨_, rfl⟩
    obtain ⟨N, hN⟩ : ∃ N, zs.length = N := ⟨_, rfl⟩
    have hNm : N ≤ m := by have := endedN_le L m now life rest; rw [endedN, hzs, hN] at this; exact this
    have HZ := Lib.hid hzs
    have HN := Lib.hid hN
    clear hzs hN
    go_wp2_with fail
    refine (implEnded_v HZ.out HN.out R1).mono ?_
    rintro e w2 ⟨ag, cg, rfl, RG, hb2⟩
    have D2 := D1.trans (hb2.mono D1.size)
    go_wp2_with fail
    refine (specEnded_v HZ.out HN.out (R1.below D2)).mono ?_
    rintro e w3 ⟨sa, cs, rfl, RS3, hb3⟩
    have D3 := D2.trans (hb3.mono D2.size)
    go_wp2_with fail
    refine (equal_at (RG.below hb3) RS3).mono ?_
    rintro e w4 ⟨rfl, hb4⟩
    have D4 := D3.trans (hb4.mono D3.size)
    by_cases hl : 1000 < now + 5
    · skip
      go_wp2_with fail
      refine (specEnded_v HZ.out HN.out (R1.below D4)).mono ?_
      rintro e w5 ⟨sa5, cs5, rfl, RS5, hb5⟩
      have D5 := D4.trans (hb5.mono D4.size)
      go_wp2_with fail
      refine (equal_at (((RG.below hb3).below hb4).below hb5) RS5).mono ?_
      rintro e w6 ⟨rfl, hb6⟩
      have D6 := D5.trans (hb6.mono D5.size)
      go_wp2
      go_ret
      exact ⟨rfl, B1.trans (D6.mono B1.size)⟩
    · obtain ⟨zl, hzl⟩ : ∃ zl, endedConns L m (now + 5) life rest = zl := ⟨_, rfl⟩
      obtain ⟨Nl, hNl⟩ : ∃ N, zl.length = N := ⟨_, rfl⟩
      have HZL := Lib.hid hzl
      have HNL := Lib.hid hNl
      clear hzl hNl
      go_wp2_with fail
      refine (implEnded_v HZL.out HNL.out (R1.below D4)).mono ?_
      rintro e w5 ⟨al, cl, rfl, RL, hb5⟩
      have D5 := D4.trans (hb5.mono D4.size)
      have RG5 := ((RG.below hb3).below hb4).below hb5
      have HIN := Lib.hid (fun j (hj : j < N) => show hasI (fun i => zl.getD i 0) (zs.getD j 0) Nl = true from (hasI_all zl _ HNL.out).2 (by
        rw [← HZL.out]
        exact ended_later (by rw [HZ.out]; exact getD_mem zs (by rw [HN.out]; exact hj)) (by omega) (by omega)))
      go_wp2
      go_loopw [9] (fun i wr => ∃ j : Nat, j ≤ N ∧ i = .int .i64 j ∧ Below w5.heap.size w5 wr) (fun i _ => N - (intOf i).toNat)
      case atStart => exact ⟨0, Nat.zero_le _, rfl, Below.refl _ _⟩
      case round =>
        obtain ⟨j, hj, rfl, hB⟩ := hrel
        by_cases hlt : j < N
        · obtain ⟨b, off, rfl, hb, hc⟩ := RG5.pos (by omega)
          have c0 := (hB.cell (p := ⟨b, off + j, none⟩) hb).trans (hc j hlt)
          have i0 : (j : Int) < (N : Int) := by omega
          have I := isIn_calls al Nl cl _ (zs.getD j 0) wr (RL.below hB)
          rw [HIN.out j hlt] at I
          clear hc
          generalize zs.getD j 0 = v at *
          go_wp2_with (go_at_call 36; refine (I).mono ?_; rintro e w' ⟨rfl, rfl⟩)
          go_roundw
          case rel => exact ⟨j + 1, by omega, by go_num, hB⟩
          case measure => simp [intOf]; omega
        · obtain rfl : j = N := by omega
          go_wp2
          go_ret
          exact ⟨rfl, B1.trans ((D5.trans (hB.mono D5.size)).mono B1.size)⟩

set_option maxHeartbeats 800000 in
theorem fnEndedConnsLife_walk (ao : Option Addr) (n cap : Nat) (c : Nat → Int) (w : World) (h : Code8 w ao n cap c) : Calls Try.prog 14 #[.slice ao n cap] w (SaysTrue w) := by
  have hcap := code_len h
  by_cases hn : 1048576 < n
  · go_enter Try.func14, Try.ntmps14
    go_wp2
    go_ret
    exact ⟨rfl, Below.refl _ _⟩
  · go_enter Try.func14, Try.ntmps14
    go_wp2_with fail
    refine (drawEndedConns_calls ao n cap c w h).mono ?_
    rintro e w1 ⟨L, m, a, cp, now, life, rest, rfl, hm, hx, hy, hz, R1, B1⟩
    have D1 := Below.refl w1.heap.size w1
    have hml := R1.len
    obtain ⟨zs, hzs⟩ : ∃ zs, endedConns L m now life rest = zs := ⟨_, rfl⟩
    obtain ⟨N, hN⟩ : ∃ N, zs.length = N := ⟨_, rfl⟩
    have hNm : N ≤ m := by have := endedN_le L m now life rest; rw [endedN, hzs, hN] at this; exact this
    have HZ := Lib.hid hzs
    have HN := Lib.hid hN
    clear hzs hN
    go_wp2_with fail
    refine (implEnded_v HZ.out HN.out R1).mono ?_
    rintro e w2 ⟨ag, cg, rfl, RG, hb2⟩
    have D2 := D1.trans (hb2.mono D1.size)
    go_wp2_with fail
    refine (specEnded_v HZ.out HN.out (R1.below D2)).mono ?_
    rintro e w3 ⟨sa, cs, rfl, RS3, hb3⟩
    have D3 := D2.trans (hb3.mono D2.size)
    go_wp2_with fail
    refine (equal_at (RG.below hb3) RS3).mono ?_
    rintro e w4 ⟨rfl, hb4⟩
    have D4 := D3.trans (hb4.mono D3.size)
    by_cases hl : 1000 ≤ life
    · skip
      go_wp2_with fail
      refine (specEnded_v HZ.out HN.out (R1.below D4)).mono ?_
      rintro e w5 ⟨sa5, cs5, rfl, RS5, hb5⟩
      have D5 := D4.trans (hb5.mono D4.size)
      go_wp2_with fail
      refine (equal_at (((RG.below hb3).below hb4).below hb5) RS5).mono ?_
      rintro e w6 ⟨rfl, hb6⟩
      have D6 := D5.trans (hb6.mono D5.size)
      go_wp2
      go_ret
      exact ⟨rfl, B1.trans (D6.mono B1.size)⟩
    by_cases hl2 : 1000 ≤ rest
    · skip
      go_wp2_with fail
      refine (specEnded_v HZ.out HN.out (R1.below D4)).mono ?_
      rintro e w5 ⟨sa5, cs5, rfl, RS5, hb5⟩
      have D5 := D4.trans (hb5.mono D4.size)
      go_wp2_with fail
      refine (equal_at (((RG.below hb3).below hb4).below hb5) RS5).mono ?_
      rintro e w6 ⟨rfl, hb6⟩
      have D6 := D5.trans (hb6.mono D5.size)
      go_wp2
      go_ret
      exact ⟨rfl, B1.trans (D6.mono B1.size)⟩
    obtain ⟨za, hza⟩ : ∃ zl, endedConns L m now (life + 1) rest = zl := ⟨_, rfl⟩
    obtain ⟨Na, hNa⟩ : ∃ N, za.length = N := ⟨_, rfl⟩
    have hNam : Na ≤ m := by have := endedN_le L m now (life + 1) rest; rw [endedN, hza, hNa] at this; exact this
    have HZA := Lib.hid hza
    have HNA := Lib.hid hNa
    obtain ⟨zb, hzb⟩ : ∃ zl, endedConns L m now life (rest + 1) = zl := ⟨_, rfl⟩
    obtain ⟨Nb, hNb⟩ : ∃ N, zb.length = N := ⟨_, rfl⟩
    have hNbm : Nb ≤ m := by have := endedN_le L m now life (rest + 1); rw [endedN, hzb, hNb] at this; exact this
    have HZB := Lib.hid hzb
    have HNB := Lib.hid hNb
    clear hza hNa hzb hNb
    go_wp2_with fail
    refine (implEnded_v HZA.out HNA.out (R1.below D4)).mono ?_
    rintro e w5 ⟨aa, ca, rfl, RA, hb5⟩
    have D5 := D4.trans (hb5.mono D4.size)
    go_wp2_with fail
    refine (implEnded_v HZB.out HNB.out (R1.below D5)).mono ?_
    rintro e w6 ⟨ab, cb, rfl, RB, hb6⟩
    have D6 := D5.trans (hb6.mono D5.size)
    have RG6 := (((RG.below hb3).below hb4).below hb5).below hb6
    have RA6 := RA.below hb6
    by_cases hl3 : life < 1
    · have hz0 : N = 0 := by
        rw [← HN.out, ← HZ.out, ended_no (by rw [Bool.and_eq_false_iff]; left; rw [Bool.and_eq_false_iff]; right; cases hi : inB 1 1000 life; rfl; have := inB_yes hi; omega)]
        rfl
      subst hz0
      go_wp2
      go_ret
      exact ⟨rfl, B1.trans (D6.mono B1.size)⟩
    by_cases hl4 : rest < 1
    · have hz0 : N = 0 := by
        rw [← HN.out, ← HZ.out, ended_no (by rw [Bool.and_eq_false_iff]; right; cases hi : inB 1 1000 rest; rfl; have := inB_yes hi; omega)]
        rfl
      subst hz0
      go_wp2
      go_ret
      exact ⟨rfl, B1.trans (D6.mono B1.size)⟩
    have HIA := Lib.hid (fun j (hj : j < Na) => show hasI (fun i => zs.getD i 0) (za.getD j 0) N = true from (hasI_all zs _ HN.out).2 (by
      rw [← HZ.out]
      exact ended_life (by rw [HZA.out]; exact getD_mem za (by rw [HNA.out]; exact hj)) (by omega)))
    have HIB := Lib.hid (fun j (hj : j < Nb) => show hasI (fun i => zs.getD i 0) (zb.getD j 0) N = true from (hasI_all zs _ HN.out).2 (by
      rw [← HZ.out]
      exact ended_rest (by rw [HZB.out]; exact getD_mem zb (by rw [HNB.out]; exact hj)) (by omega)))
    go_wp2
    go_loopw [10] (fun i wr => ∃ j : Nat, j ≤ Na ∧ i = .int .i64 j ∧ Below w6.heap.size w6 wr) (fun i _ => Na - (intOf i).toNat)
    case atStart => exact ⟨0, Nat.zero_le _, rfl, Below.refl _ _⟩
    case round =>
      obtain ⟨j, hj, rfl, hB⟩ := hrel
      by_cases hlt : j < Na
      · obtain ⟨b, off, rfl, hb, hc⟩ := RA6.pos (by omega)
        have c0 := (hB.cell (p := ⟨b, off + j, none⟩) hb).trans (hc j hlt)
        have i0 : (j : Int) < (Na : Int) := by omega
        have I := isIn_calls ag N cg _ (za.getD j 0) wr (RG6.below hB)
        rw [HIA.out j hlt] at I
        clear hc
        generalize za.getD j 0 = v at *
        go_wp2_with (go_at_call 36; refine (I).mono ?_; rintro e w' ⟨rfl, rfl⟩)
        go_roundw
        case rel => exact ⟨j + 1, by omega, by go_num, hB⟩
        case measure => simp [intOf]; omega
      · obtain rfl : j = Na := by omega
        have D7 := D6.trans (hB.mono D6.size)
        have RG7 := RG6.below hB
        have RB7 := RB.below hB
        go_wp2
        go_loopw [11] (fun i wq => ∃ k : Nat, k ≤ Nb ∧ i = .int .i64 k ∧ Below wr.heap.size wr wq) (fun i _ => Nb - (intOf i).toNat)
        case atStart => exact ⟨0, Nat.zero_le _, rfl, Below.refl _ _⟩
        case round =>
          obtain ⟨k, hk, rfl, hB'⟩ := hrel
          by_cases hlt' : k < Nb
          · obtain ⟨b, off, rfl, hb, hc⟩ := RB7.pos (by omega)
            have c0 := (hB'.cell (p := ⟨b, off + k, none⟩) hb).trans (hc k hlt')
            have i0 : (k : Int) < (Nb : Int) := by omega
            have I := isIn_calls ag N cg _ (zb.getD k 0) _ (RG7.below hB')
            rw [HIB.out k hlt'] at I
            clear hc
            generalize zb.getD k 0 = v at *
            go_wp2_with (go_at_call 36; refine (I).mono ?_; rintro e w' ⟨rfl, rfl⟩)
            go_roundw
            case rel => exact ⟨k + 1, by omega, by go_num, hB'⟩
            case measure => simp [intOf]; omega
          · obtain rfl : k = Nb := by omega
            go_wp2
            go_ret
            exact ⟨rfl, B1.trans ((D7.trans (hB'.mono D7.size)).mono B1.size)⟩
end Go.Proofs.Ytmkpdcikpjpeaaa
