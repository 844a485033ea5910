/- The walks of FnBusyAt, FnMostLeased, FnMostLeasedMore. -/
import Derived.Test.YthbemokpdcipaaaDrawLease2
import Derived.Test.YthbemokpdcipaaaLeaseLaws1
namespace Go.Proofs.Ythbemokpdcipaaa
open Go.ChangeShapes Go.WideShapes Go.ChangeAt Go.RowKit
set_option linter.unusedVariables false

theorem equalInts_calls (a b : Option Addr) (n c d : Nat) (L : Nat → Int) (w : World) (h : RdI w a n c L) (h' : RdI w b n d L) :
    Calls Try.prog 30 #[.slice a n c, .slice b n d] w (SaysTrue w) := by
  have hlen := h.len
  go_enter Try.func30, Try.ntmps30
  go_wp2
  go_loopw [5] (fun i wr => ∃ k : Nat, k ≤ n ∧ i = .int .i64 k ∧ Below w.heap.size w wr) (fun i _ => n - (intOf i).toNat)
  case atStart => exact ⟨0, Nat.zero_le _, rfl, Below.refl _ _⟩
  case round =>
    obtain ⟨k, hk, rfl, hB⟩ := hrel
    by_cases hlt : k < n
    · obtain ⟨b1, o1, rfl, hb1, hc1⟩ := h.pos (by omega)
      obtain ⟨b2, o2, rfl, hb2, hc2⟩ := h'.pos (by omega)
      have g1 : wr.cell? ⟨b1, o1 + k, none⟩ = some (.int .i64 (L k)) := (hB.cell hb1).trans (hc1 k hlt)
      have g2 : wr.cell? ⟨b2, o2 + k, none⟩ = some (.int .i64 (L k)) := (hB.cell hb2).trans (hc2 k hlt)
      have i0 : (k : Int) < (n : Int) := by omega
      clear hc1 hc2
      go_wp2
      go_quiet (fail)
      go_wp2
      go_roundw
      case rel => exact ⟨k + 1, by omega, by go_num, below_drewN hB _⟩
      case measure => simp [intOf]; omega
    · go_wp2
      go_ret
      exact ⟨rfl, hB⟩
theorem code_len {w : World} {ao : Option Addr} {n cap : Nat} {c : Nat → Int} (h : Code8 w ao n cap c) : n ≤ 9223372036854775807 := by
  have := h.1; have := h.2.1; unfold maxLen at this; omega
theorem RdI_of_ownL {w : World} {base : Nat} {e : TypeId} {ao : Option Addr} {n cap : Nat} {zs : List Int} (hl : zs.length = n) (h : w.ownsRow base e 1 (.slice ao n cap) n (zs.map (Value.int .i64))) : RdI w ao n cap (fun i => zs.getD i 0) := by
  subst hl
  obtain ⟨a, c, h1, h2, _⟩ := RdI_of_own h
  injection h1 with h1a h1b h1c
  subst h1a h1c
  exact h2
section
variable {ao : Option Addr} {n cap : Nat} {L : Nat → Lz} {t : Int} {w : World}
theorem implValid_v {v : Bool} (hv : vL L n = v) (h : RdL w ao n cap L) : Calls Try.prog 32 #[.slice ao n cap] w fun e w' => e = .returned (.bool v) ∧ Below w.heap.size w w' := by
  rw [← hv]; exact implValidLeases_calls ao n cap L w h
theorem implMost_v {v : Int} (hv : mostLeased L n = v) (h : RdL w ao n cap L) : Calls Try.prog 26 #[.slice ao n cap] w fun e w' => e = .returned (.int .i64 v) ∧ Below w.heap.size w w' := by
  rw [← hv]; exact implMostLeased_calls ao n cap L w h
theorem specMost_v {v : Int} (hv : mostLeased L n = v) (h : RdL w ao n cap L) : Calls Try.prog 25 #[.slice ao n cap] w fun e w' => e = .returned (.int .i64 v) ∧ Below w.heap.size w w' := by
  rw [← hv]; exact specMostLeased_calls ao n cap L w h
theorem implMean_v {v : Int} (hv : meanLeased L n t = v) (h : RdL w ao n cap L) : Calls Try.prog 23 #[.slice ao n cap, .int .i64 t] w fun e w' => e = .returned (.int .i64 v) ∧ Below w.heap.size w w' := by
  rw [← hv]; exact implMeanLeased_calls ao n cap L t w h
theorem specMean_v {v : Int} (hv : meanLeased L n t = v) (h : RdL w ao n cap L) : Calls Try.prog 22 #[.slice ao n cap, .int .i64 t] w fun e w' => e = .returned (.int .i64 v) ∧ Below w.heap.size w w' := by
  rw [← hv]; exact specMeanLeased_calls ao n cap L t w h
/-- Integers in new memory, read. -/
def BusyR (w : World) (N : Nat) (zs : List Int) (e : Ending) (w' : World) : Prop := ∃ a c, e = .returned (.slice a N c) ∧ RdI w' a N c (fun i => zs.getD i 0) ∧ Below w.heap.size w w'
theorem busyR_of {zs : List Int} {N : Nat} {e : Ending} {w' : World} (hN : zs.length = N) (h : IntsC w (busyAt L n t).length (busyAt L n t) e w') (hz : busyAt L n t = zs) : BusyR w N zs e w' := by
  obtain ⟨_, a, c, d, rfl, p, q, r, ho, hb⟩ := h
  rw [hz, hN] at ho
  rw [hz, hN] at p ⊢
  exact ⟨a, c, rfl, Rd.recap (RdI_of_ownL hN ho) p q r, hb⟩
theorem implBusy_v {zs : List Int} {N : Nat} (hz : busyAt L n t = zs) (hN : zs.length = N) (h : RdL w ao n cap L) : Calls Try.prog 28 #[.slice ao n cap, .int .i64 t] w (BusyR w N zs) :=
  (implBusyAt_calls ao n cap L t w h).mono fun _ _ h => busyR_of hN h hz
theorem specBusy_v {zs : List Int} {N : Nat} (hz : busyAt L n t = zs) (hN : zs.length = N) (h : RdL w ao n cap L) : Calls Try.prog 31 #[.slice ao n cap, .int .i64 t] w (BusyR w N zs) :=
  (specBusyAt_calls ao n cap L t w h).mono fun _ _ h => busyR_of hN h hz
theorem implBusy_n {N : Nat} (hN : (busyAt L n t).length = N) (h : RdL w ao n cap L) : Calls Try.prog 28 #[.slice ao n cap, .int .i64 t] w fun e w' => ∃ a c, e = .returned (.slice a N c) ∧ Below w.heap.size w w' :=
  (implBusyAt_calls ao n cap L t w h).mono fun _ _ h => by
    obtain ⟨_, a, c, d, rfl, _, _, _, _, hb⟩ := h
    rw [hN]; exact ⟨a, c, rfl, hb⟩
theorem equal_at {a b : Option Addr} {c d : Nat} {I : Nat → Int} (h : RdI w a n c I) (h' : RdI w b n d I) : Calls Try.prog 30 #[.slice a n c, .slice b n d] w fun e w' => e = .returned (.bool true) ∧ Below w.heap.size w w' := equalInts_calls a b n c d I w h h'
end
theorem most_good {L : Nat → Lz} {n : Nat} (h : vL L n = true) : mostLeased L n = (mostL L n n : Nat) := by simp [mostLeased, h]
theorem most_bad {L : Nat → Lz} {n : Nat} (h : vL L n = false) : mostLeased L n = -1 := by simp [mostLeased, h]
theorem busy_facts {L : Nat → Lz} {n : Nat} {t : Int} {zs : List Int} {N : Nat} (h : vL L n = true) (hz : busyAt L n t = zs) (hN : zs.length = N) : N ≤ mostL L n n ∧ N ≤ 12 ∧ ∀ i, 0 < i → i < N → zs.getD (i - 1) 0 < zs.getD i 0 := by
  have e : busyAt L n t = busyL L t n 6 := by simp [busyAt, h]
  have hl : N = cntAt L t n := by rw [← hN, ← hz, busyAt_len h]
  refine ⟨by rw [hl]; exact cntAt_most L t n, by have := cntAt_le L t n; have := (vL_facts h).2; omega, ?_⟩
  rw [← hN, ← hz, e]
  exact busyL_asc L t n 6

set_option maxHeartbeats 800000 in
theorem fnBusyAt_walk (ao : Option Addr) (n cap : Nat) (c : Nat → Int) (w : World) (h : Code8 w ao n cap c) : Calls Try.prog 12 #[.slice ao n cap] w (SaysTrue w) := by
  have hcap := code_len h
  by_cases hn : 1048576 < n
  · go_enter Try.func12, Try.ntmps12
    go_wp2
    go_ret
    exact ⟨rfl, Below.refl _ _⟩
  · go_enter Try.func12, Try.ntmps12
    go_wp2_with fail
    refine (drawBusyAt_calls ao n cap c w h).mono ?_
    rintro e w1 ⟨L, m, a, cp, t, rfl, hm, hx, R1, B1⟩
    have D1 := Below.refl w1.heap.size w1
    have hml := R1.len
    obtain ⟨zs, hzs⟩ : ∃ zs, busyAt L m t = zs := ⟨_, rfl⟩
    obtain ⟨N, hN⟩ : ∃ N, zs.length = N := ⟨_, rfl⟩
    have HZ := Lib.hid hzs
    have HN := Lib.hid hN
    clear hzs hN
    cases hv : vL L m
    · have HV := Lib.hid hv
      clear hv
      go_wp2_with fail
      refine (implBusy_v HZ.out HN.out R1).mono ?_
      rintro e w2 ⟨ag, cg, rfl, RG, hb2⟩
      have D2 := D1.trans (hb2.mono D1.size)
      go_wp2_with fail
      refine (specBusy_v HZ.out HN.out (R1.below D2)).mono ?_
      rintro e w3 ⟨sa, cs, rfl, RS3, hb3⟩
      have D3 := D2.trans (hb3.mono D2.size)
      go_wp2_with fail
      refine (equal_at (RG.below hb3) RS3).mono ?_
      rintro e w4 ⟨rfl, hb4⟩
      have D4 := D3.trans (hb4.mono D3.size)
      go_wp2_with fail
      refine (implValid_v HV.out (R1.below D4)).mono ?_
      rintro e w5 ⟨rfl, hb5⟩
      have D5 := D4.trans (hb5.mono D4.size)
      go_wp2_with fail
      refine (specBusy_v HZ.out HN.out (R1.below D5)).mono ?_
      rintro e w6 ⟨sa6, cs6, rfl, RS6, hb6⟩
      have D6 := D5.trans (hb6.mono D5.size)
      go_wp2_with fail
      refine (equal_at ((((RG.below hb3).below hb4).below hb5).below hb6) RS6).mono ?_
      rintro e w7 ⟨rfl, hb7⟩
      have D7 := D6.trans (hb7.mono D6.size)
      go_wp2
      go_ret
      exact ⟨rfl, B1.trans (D7.mono B1.size)⟩
    · have HV := Lib.hid hv
      obtain ⟨hN1, hN2, hasc⟩ := busy_facts hv HZ.out HN.out
      have hmo := mostL_le L m m
      have HM := Lib.hid (most_good hv)
      have H0 := Lib.hid (show (busyAt L m (-1)).length = 0 by rw [busyAt_len hv, cntAt_early hv (by omega)])
      have HA := Lib.hid hasc
      clear hv hasc
      go_wp2_with fail
      refine (implBusy_v HZ.out HN.out R1).mono ?_
      rintro e w2 ⟨ag, cg, rfl, RG, hb2⟩
      have D2 := D1.trans (hb2.mono D1.size)
      go_wp2_with fail
      refine (specBusy_v HZ.out HN.out (R1.below D2)).mono ?_
      rintro e w3 ⟨sa, cs, rfl, RS3, hb3⟩
      have D3 := D2.trans (hb3.mono D2.size)
      go_wp2_with fail
      refine (equal_at (RG.below hb3) RS3).mono ?_
      rintro e w4 ⟨rfl, hb4⟩
      have D4 := D3.trans (hb4.mono D3.size)
      go_wp2_with fail
      refine (implValid_v HV.out (R1.below D4)).mono ?_
      rintro e w5 ⟨rfl, hb5⟩
      have D5 := D4.trans (hb5.mono D4.size)
      have RG5 := ((RG.below hb3).below hb4).below hb5
      go_wp2
      go_loopw [6] (fun i wr => ∃ j : Nat, 1 ≤ j ∧ j ≤ N + 1 ∧ i = .int .i64 j ∧ Below w5.heap.size w5 wr) (fun i _ => N + 1 - (intOf i).toNat)
      case atStart => exact ⟨1, Nat.le_refl _, by omega, rfl, Below.refl _ _⟩
      case round =>
        obtain ⟨j, hj1, hj, rfl, hB⟩ := hrel
        by_cases hlt : j < N
        · obtain ⟨b, off, rfl, hb, hc⟩ := RG5.pos (by omega)
          have c0 := (hB.cell (p := ⟨b, off + j, none⟩) hb).trans (hc j hlt)
          have c1 := (hB.cell (p := ⟨b, off + (j - 1), none⟩) hb).trans (hc (j - 1) (by omega))
          have i0 : (j : Int) < (N : Int) := by omega
          have i1 : (1 : Int) ≤ (j : Int) := by omega
          have ha := HA.out j (by omega) hlt
          have ha' : ¬ zs.getD j 0 ≤ zs.getD (j - 1) 0 := by omega
          clear hc
          generalize zs.getD j 0 = u1 at *
          generalize zs.getD (j - 1) 0 = u0 at *
          go_wp2
          go_quiet (fail)
          go_wp2
          go_roundw
          case rel => exact ⟨j + 1, by omega, by omega, by go_num, below_drewN hB _⟩
          case measure => simp [intOf]; omega
        · have i0 : ¬ (j : Int) < (N : Int) := by omega
          have D6 := D5.trans (hB.mono D5.size)
          have hmc : ((mostL L m m : Nat) : Int) ≤ (m : Int) := by omega
          have hNc : (N : Int) ≤ ((mostL L m m : Nat) : Int) := by omega
          go_wp2_with fail
          refine (implMost_v HM.out (R1.below D6)).mono ?_
          rintro e w7 ⟨rfl, hb7⟩
          have D7 := D6.trans (hb7.mono D6.size)
          go_wp2_with fail
          refine (implBusy_n H0.out (R1.below D7)).mono ?_
          rintro e w8 ⟨a8, c8, rfl, hb8⟩
          have D8 := D7.trans (hb8.mono D7.size)
          go_wp2
          go_ret
          exact ⟨rfl, B1.trans (D8.mono B1.size)⟩

set_option maxHeartbeats 800000 in
theorem fnMostLeased_walk (ao : Option Addr) (n cap : Nat) (c : Nat → Int) (w : World) (h : Code8 w ao n cap c) : Calls Try.prog 9 #[.slice ao n cap] w (SaysTrue w) := by
  have hcap := code_len h
  by_cases hn : 1048576 < n
  · go_enter Try.func9, Try.ntmps9
    go_wp2
    go_ret
    exact ⟨rfl, Below.refl _ _⟩
  · go_enter Try.func9, Try.ntmps9
    go_wp2_with fail
    refine (drawMostLeased_calls ao n cap c w h).mono ?_
    rintro e w1 ⟨L, m, a, cp, rfl, hm, R1, B1⟩
    have D1 := Below.refl w1.heap.size w1
    have hml := R1.len
    cases hv : vL L m
    · have HM := Lib.hid (most_bad hv)
      clear hv
      go_wp2_with fail
      refine (implMost_v HM.out R1).mono ?_
      rintro e w2 ⟨rfl, hb2⟩
      have D2 := D1.trans (hb2.mono D1.size)
      go_wp2_with fail
      refine (specMost_v HM.out (R1.below D2)).mono ?_
      rintro e w3 ⟨rfl, hb3⟩
      have D3 := D2.trans (hb3.mono D2.size)
      go_wp2_with fail
      refine (specMost_v HM.out (R1.below D3)).mono ?_
      rintro e w4 ⟨rfl, hb4⟩
      have D4 := D3.trans (hb4.mono D3.size)
      go_wp2
      go_ret
      exact ⟨rfl, B1.trans (D4.mono B1.size)⟩
    · have HV := Lib.hid hv
      have HM := Lib.hid (most_good hv)
      rcases Nat.eq_zero_or_pos m with h0 | h0
      · subst h0
        have HM0 := Lib.hid (show mostLeased L 0 = 0 by rw [HM.out]; rfl)
        clear hv
        go_wp2_with fail
        refine (implMost_v HM0.out R1).mono ?_
        rintro e w2 ⟨rfl, hb2⟩
        have D2 := D1.trans (hb2.mono D1.size)
        go_wp2_with fail
        refine (specMost_v HM0.out (R1.below D2)).mono ?_
        rintro e w3 ⟨rfl, hb3⟩
        have D3 := D2.trans (hb3.mono D2.size)
        go_wp2_with fail
        refine (specMost_v HM0.out (R1.below D3)).mono ?_
        rintro e w4 ⟨rfl, hb4⟩
        have D4 := D3.trans (hb4.mono D3.size)
        go_wp2
        go_ret
        exact ⟨rfl, B1.trans (D4.mono B1.size)⟩
      · have hp := mostL_pos hv h0
        have hle := mostL_le L m m
        have HB := Lib.hid (fun t => busyAt_len hv t)
        have HG := Lib.hid (fun k (hk : k < m) => mostL_ge (L := L) (n := m) k hk)
        have HT := Lib.hid (mostL_attained (L := L) (n := m) m)
        generalize hMM : mostL L m m = M at *
        have n0 : ¬ (M : Int) < 1 := by omega
        have n1 : (M : Int) ≤ (m : Int) := by omega
        clear hv
        go_wp2_with fail
        refine (implMost_v HM.out R1).mono ?_
        rintro e w2 ⟨rfl, hb2⟩
        have D2 := D1.trans (hb2.mono D1.size)
        go_wp2_with fail
        refine (specMost_v HM.out (R1.below D2)).mono ?_
        rintro e w3 ⟨rfl, hb3⟩
        have D3 := D2.trans (hb3.mono D2.size)
        have RR := R1.below D3
        go_wp2
        go_loopw [5, 6] (fun q i wr => ∃ (k : Nat) (b : Bool), k ≤ m ∧ i = .int .i64 k ∧ q = .bool b ∧ ((∃ j, j < k ∧ M = cntAt L (L j).frm m) → b = true) ∧ Below w3.heap.size w3 wr) (fun _ i _ => m - (intOf i).toNat)
        case atStart => exact ⟨0, false, Nat.zero_le _, rfl, rfl, fun ⟨j, h, _⟩ => by omega, Below.refl _ _⟩
        case round =>
          obtain ⟨k, q, hk, rfl, rfl, hq, hB⟩ := hrel
          have HQ := Lib.hid hq
          clear hq
          by_cases hlt : k < m
          · obtain ⟨b, off, rfl, hb, hc⟩ := RR.pos (by omega)
            have c2 := (hB.cell (p := ⟨b, off + k * 4 + 2, none⟩) hb).trans (hc k hlt).2.2.1
            have i0 : (k : Int) < (m : Int) := by omega
            obtain ⟨C, hC⟩ : ∃ C, cntAt L (L k).frm m = C := ⟨_, rfl⟩
            have hg := HG.out k hlt
            rw [hC] at hg
            have HC := Lib.hid (show (busyAt L m (L k).frm).length = C by rw [HB.out, hC])
            have HC2 := Lib.hid hC
            clear hc hC
            have n2 : ¬ (M : Int) < (C : Int) := by omega
            go_wp2_with fail
            refine (implBusy_n HC.out (RR.below hB)).mono ?_
            rintro e w4 ⟨a4, c4, rfl, hb4⟩
            have hB4 := hB.trans (hb4.mono hB.size)
            cases q
            · by_cases he : C = M
              · have he' : ((C : Int) == (M : Int)) = true := by simp [he]
                clear he
                go_wp2
                go_roundw
                case rel => exact ⟨k + 1, true, by omega, by go_num, rfl, fun _ => rfl, hB4⟩
                case measure => simp [intOf]; omega
              · have he' : ((C : Int) == (M : Int)) = false := by simp; omega
                have HE := Lib.hid he
                clear he
                go_wp2
                go_roundw
                case rel => exact ⟨k + 1, false, by omega, by go_num, rfl, fun ⟨j, h1, h2⟩ => by
                  by_cases e : j = k
                  · subst e; exact absurd (HC2.out.symm.trans h2.symm) HE.out
                  · exact HQ.out ⟨j, by omega, h2⟩, hB4⟩
                case measure => simp [intOf]; omega
            · go_wp2
              go_roundw
              case rel => exact ⟨k + 1, true, by omega, by go_num, rfl, fun _ => rfl, hB4⟩
              case measure => simp [intOf]; omega
          · obtain rfl : k = m := by omega
            have hq : q = true := HQ.out (by rcases HT.out with h | ⟨j, h1, h2⟩; · omega
                                             · exact ⟨j, h1, h2⟩)
            subst hq
            go_wp2
            go_ret
            exact ⟨rfl, B1.trans ((D3.trans (hB.mono D3.size)).mono B1.size)⟩

set_option maxHeartbeats 800000 in
theorem fnMostLeasedMore_walk (ao : Option Addr) (n cap : Nat) (c : Nat → Int) (w : World) (h : Code8 w ao n cap c) : Calls Try.prog 10 #[.slice ao n cap] w (SaysTrue w) := by
  have hcap := code_len h
  by_cases hn : 1048576 < n
  · go_enter Try.func10, Try.ntmps10
    go_wp2
    go_ret
    exact ⟨rfl, Below.refl _ _⟩
  · go_enter Try.func10, Try.ntmps10
    go_wp2_with fail
    refine (drawMostLeased_calls ao n cap c w h).mono ?_
    rintro e w1 ⟨L, m, a, cp, rfl, hm, R1, B1⟩
    have D1 := Below.refl w1.heap.size w1
    have hml := R1.len
    cases hv : vL L m
    · have HM := Lib.hid (most_bad hv)
      clear hv
      go_wp2_with fail
      refine (implMost_v HM.out R1).mono ?_
      rintro e w2 ⟨rfl, hb2⟩
      have D2 := D1.trans (hb2.mono D1.size)
      go_wp2_with fail
      refine (specMost_v HM.out (R1.below D2)).mono ?_
      rintro e w3 ⟨rfl, hb3⟩
      have D3 := D2.trans (hb3.mono D2.size)
      go_wp2_with fail
      refine (specMost_v HM.out (R1.below D3)).mono ?_
      rintro e w4 ⟨rfl, hb4⟩
      have D4 := D3.trans (hb4.mono D3.size)
      go_wp2
      go_ret
      exact ⟨rfl, B1.trans (D4.mono B1.size)⟩
    · have HM := Lib.hid (most_good hv)
      rcases Nat.eq_zero_or_pos m with h0 | h0
      · subst h0
        have HM0 := Lib.hid (show mostLeased L 0 = 0 by rw [HM.out]; rfl)
        clear hv
        go_wp2_with fail
        refine (implMost_v HM0.out R1).mono ?_
        rintro e w2 ⟨rfl, hb2⟩
        have D2 := D1.trans (hb2.mono D1.size)
        go_wp2_with fail
        refine (specMost_v HM0.out (R1.below D2)).mono ?_
        rintro e w3 ⟨rfl, hb3⟩
        have D3 := D2.trans (hb3.mono D2.size)
        go_wp2_with fail
        refine (specMost_v HM0.out (R1.below D3)).mono ?_
        rintro e w4 ⟨rfl, hb4⟩
        have D4 := D3.trans (hb4.mono D3.size)
        go_wp2
        go_ret
        exact ⟨rfl, B1.trans (D4.mono B1.size)⟩
      · obtain ⟨m, rfl⟩ : ∃ m', m = m' + 1 := ⟨m - 1, by omega⟩
        have hp := mostL_pos hv h0
        have hle := mostL_le L (m + 1) (m + 1)
        obtain ⟨g1, g2⟩ := mostL_more (L := L) (n := m)
        have HM2 := Lib.hid (most_good (vL_le hv (Nat.le_succ m)))
        obtain ⟨b, off, rfl, hb, _⟩ := R1.pos h0
        have hmc := R1.1
        have hcm := R1.2.1
        unfold maxLen at hcm
        generalize mostL L (m + 1) (m + 1) = M at *
        generalize mostL L m m = M2 at *
        have n0 : ¬ (M : Int) < 1 := by omega
        have i1 : (1 : Int) ≤ (((m + 1 : Nat)) : Int) := by omega
        have i2 : (((m + 1 : Nat)) : Int) ≤ (cp : Int) := by omega
        have RT := fun w' (hb : Below w1.heap.size w1 w') => Rd.take (R1.below hb) (Nat.le_succ m)
        clear hv
        go_wp2_with fail
        refine (implMost_v HM.out R1).mono ?_
        rintro e w2 ⟨rfl, hb2⟩
        have D2 := D1.trans (hb2.mono D1.size)
        go_wp2_with fail
        refine (specMost_v HM.out (R1.below D2)).mono ?_
        rintro e w3 ⟨rfl, hb3⟩
        have D3 := D2.trans (hb3.mono D2.size)
        go_wp2_with fail
        refine (implMost_v HM2.out (RT _ D3)).mono ?_
        rintro e w4 ⟨rfl, hb4⟩
        have D4 := D3.trans (hb4.mono D3.size)
        by_cases he : M2 = M
        · subst he
          go_wp2
          go_ret
          exact ⟨rfl, B1.trans (D4.mono B1.size)⟩
        · have he' : ((M2 : Int) == (M : Int)) = false := by simp; omega
          have he2 : (M2 : Int) = (M : Int) - 1 := by omega
          have he3 : ((M2 : Int) == (M : Int) - 1) = true := by simp [he2]
          have w1 : IntKind.i64.wrap ((M : Int) - 1) = (M : Int) - 1 := IntWalk.i64_in _ (by omega)
          clear he he2
          go_wp2
          go_ret
          exact ⟨rfl, B1.trans (D4.mono B1.size)⟩
end Go.Proofs.Ythbemokpdcipaaa
