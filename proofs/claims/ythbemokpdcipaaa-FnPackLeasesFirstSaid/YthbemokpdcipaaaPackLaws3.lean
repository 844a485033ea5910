/- The walk of FnPackLeasesFirst. -/
import Derived.Test.YthbemokpdcipaaaPackLaws2
namespace Go.Proofs.Ythbemokpdcipaaa
open Go.ChangeShapes Go.WideShapes Go.ChangeAt Go.RowKit
set_option linter.unusedVariables false

set_option maxRecDepth 100000 in
set_option maxHeartbeats 6400000 in
theorem fnPackLeasesFirst_walk (ao : Option Addr) (n cap : Nat) (c : Nat → Int) (w : World) (h : Code8 w ao n cap c) : Calls Try.prog 3 #[.slice ao n cap] w (SaysTrue w) := by
  have hcap := code_len h
  by_cases hn : 1048576 < n
  · go_enter Try.func3, Try.ntmps3
    go_wp2
    go_ret
    exact ⟨rfl, Below.refl _ _⟩
  · go_enter Try.func3, Try.ntmps3
    go_wp2_with fail
    refine (drawPackLeases_calls ao n cap c w h).mono ?_
    rintro e w1 ⟨L, m, a, cp, rfl, hm, R1, B1⟩
    have D1 := Below.refl w1.heap.size w1
    have hml := R1.len
    cases hk : vL L m
    · have HK := Lib.hid hk
      clear hk
      go_wp2_with fail
      refine (implPack_no HK.out R1).mono ?_
      rintro e w2 ⟨ag, cg, rfl, RG, hb2⟩
      have D2 := D1.trans (hb2.mono D1.size)
      go_wp2_with fail
      refine (specPack_no HK.out (R1.below D2)).mono ?_
      rintro e w3 ⟨sa, cs, rfl, RS3, hb3⟩
      have D3 := D2.trans (hb3.mono D2.size)
      go_wp2_with fail
      refine (equalL_at (RG.below hb3) RS3).mono ?_
      rintro e w4 ⟨rfl, hb4⟩
      have D4 := D3.trans (hb4.mono D3.size)
      go_wp2_with fail
      refine (equalL_at ((RG.below hb3).below hb4) (RS3.below hb4)).mono ?_
      rintro e w5 ⟨rfl, hb5⟩
      have D5 := D4.trans (hb5.mono D4.size)
      go_wp2
      go_ret
      exact ⟨rfl, B1.trans (D5.mono B1.size)⟩
    · have HK := Lib.hid hk
      clear hk
      by_cases h0 : 0 < m
      · have h0' : ((m : Int) == 0) = false := by simp; omega
        have hbd := fun i (hi : i < m) => pack_bounds HK.out hi
        have HSA := Lib.hid (fun i (hi : i < m) => someF_all HK.out hi)
        have HFA := Lib.hid (firstF_all HK.out h0)
        generalize hP : packL L m = P at *
        have HBD := Lib.hid hbd
        have I := fun ao cap w (h : RdL w ao m cap L) => hP ▸ implPack_yes HK.out h
        have S := fun ao cap w (h : RdL w ao m cap L) => hP ▸ specPack_yes HK.out h
        have HI := Lib.hid I
        have HS := Lib.hid S
        clear hbd hP I S
        go_wp2_with fail
        refine (HI.out _ _ _ R1).mono ?_
        rintro e w2 ⟨ag, cg, rfl, RG, hb2⟩
        have D2 := D1.trans (hb2.mono D1.size)
        go_wp2_with fail
        refine (HS.out _ _ _ (R1.below D2)).mono ?_
        rintro e w3 ⟨sa, cs, rfl, RS3, hb3⟩
        have D3 := D2.trans (hb3.mono D2.size)
        have RG3 := RG.below hb3
        go_wp2_with fail
        refine (equalL_at RG3 RS3).mono ?_
        rintro e w4 ⟨rfl, hb4⟩
        have D4 := D3.trans (hb4.mono D3.size)
        have RG4 := RG3.below hb4
        clear RG RG3 RS3 HI HS R1
        obtain ⟨b, off, rfl, hb, hc⟩ := RG4.pos h0
        have HC := Lib.hid hc
        clear hc RG4
        go_wp2
        go_loopw [8, 9] (fun f i wr => ∃ j : Nat, j ≤ m ∧ i = .int .i64 j ∧ f = .bool (firstF P j) ∧ Below w4.heap.size w4 wr) (fun _ i _ => m - (intOf i).toNat)
        case atStart => exact ⟨0, Nat.zero_le _, rfl, rfl, Below.refl _ _⟩
        case round =>
          obtain ⟨j, hj, rfl, rfl, hB⟩ := hrel
          by_cases hlt : j < m
          · have i0 : (j : Int) < (m : Int) := by omega
            obtain ⟨q0, q1, q2, q3⟩ := HC.out j hlt
            have hbj := HBD.out j hlt
            have c0 := (hB.cell (p := ⟨b, off + j * 4, none⟩) hb).trans q0
            clear q0 q1 q2 q3
            obtain ⟨z, hz⟩ : ∃ z, ((P j).conn == 0) = z := ⟨_, rfl⟩
            obtain ⟨f, hf⟩ : ∃ f, firstF P j = f := ⟨_, rfl⟩
            have HN := Lib.hid (firstF_step hf hz)
            have HZ := Lib.hid (show someF P j 0 = z from hz)
            rw [hf]
            clear hf
            cases f <;> cases z
            all_goals
              go_wp2
              go_loopw [10, 11] (fun s i wr => ∃ k : Nat, k ≤ m ∧ i = .int .i64 k ∧ s = .bool (someF P j k) ∧ Below w4.heap.size w4 wr) (fun _ i _ => m - (intOf i).toNat)
              case atStart => exact ⟨0, Nat.zero_le _, rfl, by rw [HZ.out], hB⟩
              case round =>
                obtain ⟨k, hk, rfl, rfl, hB⟩ := hrel
                by_cases hkm : k < m
                · have i1 : (k : Int) < (m : Int) := by omega
                  obtain ⟨q0, q1, q2, q3⟩ := HC.out j hlt
                  obtain ⟨r0, r1, r2, r3⟩ := HC.out k hkm
                  have d0 := (hB.cell (p := ⟨b, off + j * 4, none⟩) hb).trans q0
                  have d2 := (hB.cell (p := ⟨b, off + j * 4 + 2, none⟩) hb).trans q2
                  have e0 := (hB.cell (p := ⟨b, off + k * 4, none⟩) hb).trans r0
                  have e2 := (hB.cell (p := ⟨b, off + k * 4 + 2, none⟩) hb).trans r2
                  have e3 := (hB.cell (p := ⟨b, off + k * 4 + 3, none⟩) hb).trans r3
                  clear q0 q1 q2 q3 r0 r1 r2 r3 c0
                  have hwr : IntKind.i64.wrap ((P j).conn - 1) = (P j).conn - 1 := IntWalk.i64_in _ (by omega)
                  obtain ⟨s, hs⟩ : ∃ s, someF P j k = s := ⟨_, rfl⟩
                  rw [hs]
                  cases s
                  · rcases chain3 ((P k).conn == (P j).conn - 1) (decide ((P k).frm ≤ (P j).frm)) (decide ((P j).frm < (P k).til)) with t1 | ⟨t1, t2⟩ | ⟨t1, t2, t3⟩ | ⟨t1, t2, t3⟩
                    case inr.inr.inr =>
                      have HT := Lib.hid (someF_step hs (show nextT P j k = true by simp only [nextT, t1, t2, t3]; rfl))
                      clear hs
                      go_wp2
                      go_quiet (fail)
                      go_wp2
                      go_roundw
                      case rel => exact ⟨k + 1, by omega, by go_num, by rw [HT.out]; rfl, below_drewN hB _⟩
                      case measure => simp [intOf]; omega
                    all_goals
                      have HT := Lib.hid (someF_step hs (show nextT P j k = false by simp [nextT, *]))
                      clear hs
                      go_wp2
                      go_quiet (fail)
                      go_wp2
                      go_roundw
                      case rel => exact ⟨k + 1, by omega, by go_num, by rw [HT.out]; rfl, below_drewN hB _⟩
                      case measure => simp [intOf]; omega
                  · have HT := Lib.hid (someF_step hs (show nextT P j k = nextT P j k from rfl))
                    clear hs
                    go_wp2
                    go_quiet (fail)
                    go_wp2
                    go_roundw
                    case rel => exact ⟨k + 1, by omega, by go_num, by rw [HT.out]; rfl, below_drewN hB _⟩
                    case measure => simp [intOf]; omega
                · obtain rfl : k = m := by omega
                  rw [HSA.out j hlt]
                  go_wp2
                  go_roundw
                  case rel => exact ⟨j + 1, by omega, by go_num, by rw [HN.out]; rfl, hB⟩
                  case measure => simp [intOf]; omega
          · obtain rfl : j = m := by omega
            rw [HFA.out]
            go_wp2
            go_ret
            exact ⟨rfl, B1.trans ((D4.trans (hB.mono D4.size)).mono B1.size)⟩
      · obtain rfl : m = 0 := by omega
        go_wp2_with fail
        refine (implPack_yes HK.out R1).mono ?_
        rintro e w2 ⟨ag, cg, rfl, RG, hb2⟩
        have D2 := D1.trans (hb2.mono D1.size)
        go_wp2_with fail
        refine (specPack_yes HK.out (R1.below D2)).mono ?_
        rintro e w3 ⟨sa, cs, rfl, RS3, hb3⟩
        have D3 := D2.trans (hb3.mono D2.size)
        go_wp2_with fail
        refine (equalL_at (RG.below hb3) RS3).mono ?_
        rintro e w4 ⟨rfl, hb4⟩
        have D4 := D3.trans (hb4.mono D3.size)
        go_wp2_with fail
        refine (equalL_at ((RG.below hb3).below hb4) (RS3.below hb4)).mono ?_
        rintro e w5 ⟨rfl, hb5⟩
        have D5 := D4.trans (hb5.mono D4.size)
        go_wp2
        go_ret
        exact ⟨rfl, B1.trans (D5.mono B1.size)⟩
end Go.Proofs.Ythbemokpdcipaaa
