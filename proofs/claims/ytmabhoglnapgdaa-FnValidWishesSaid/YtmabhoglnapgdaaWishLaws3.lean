/- The walks of the drawn laws on wishes that hold no drawn region but reads. -/
import Derived.Test.YtmabhoglnapgdaaDrawWish2
import Derived.Test.YtmabhoglnapgdaaServe4
import Derived.Test.YtmabhoglnapgdaaMarkWish
namespace Go.Proofs.Ytmabhoglnapgdaa
open Go.ChangeShapes Go.WideShapes Go.ChangeAt Go.RowKit
set_option linter.unusedVariables false

theorem code_len {w : World} {ao : Option Addr} {n cap : Nat} {c : Nat → Int} (h : Code8 w ao n cap c) : n ≤ 9223372036854775807 := by
  have := h.1; have := h.2.1; unfold maxLen at this; omega
section
variable {ao : Option Addr} {n cap : Nat} {L : Nat → Wi} {many : Int} {w : World}
theorem implCountServed_v {v : Int} (hv : countS L n many = v) (h : RdW w ao n cap L) : Calls Try.prog 34 #[.slice ao n cap, .int .i64 many] w fun e w' => e = .returned (.int .i64 v) ∧ Below w.heap.size w w' := by
  rw [← hv]; exact implCountServed_calls ao n cap L many w h
theorem specCountServed_v {v : Int} (hv : countS L n many = v) (h : RdW w ao n cap L) : Calls Try.prog 33 #[.slice ao n cap, .int .i64 many] w fun e w' => e = .returned (.int .i64 v) ∧ Below w.heap.size w w' := by
  rw [← hv]; exact specCountServed_calls ao n cap L many w h
theorem implLongestWait_v {v : Int} (hv : waitS L n many = v) (h : RdW w ao n cap L) : Calls Try.prog 31 #[.slice ao n cap, .int .i64 many] w fun e w' => e = .returned (.int .i64 v) ∧ Below w.heap.size w w' := by
  rw [← hv]; exact implLongestWait_calls ao n cap L many w h
theorem specLongestWait_v {v : Int} (hv : waitS L n many = v) (h : RdW w ao n cap L) : Calls Try.prog 32 #[.slice ao n cap, .int .i64 many] w fun e w' => e = .returned (.int .i64 v) ∧ Below w.heap.size w w' := by
  rw [← hv]; exact specLongestWait_calls ao n cap L many w h
theorem implConnsFor_v {v : Int} (hv : connsFor L n = v) (h : RdW w ao n cap L) : Calls Try.prog 37 #[.slice ao n cap] w fun e w' => e = .returned (.int .i64 v) ∧ Below w.heap.size w w' := by
  rw [← hv]; exact implConnsFor_calls ao n cap L w h
theorem specConnsFor_v {v : Int} (hv : connsFor L n = v) (h : RdW w ao n cap L) : Calls Try.prog 38 #[.slice ao n cap] w fun e w' => e = .returned (.int .i64 v) ∧ Below w.heap.size w w' := by
  rw [← hv]; exact specConnsFor_calls ao n cap L w h
theorem implValidWishes_v {v : Bool} (hv : vW L n = v) (h : RdW w ao n cap L) : Calls Try.prog 21 #[.slice ao n cap] w fun e w' => e = .returned (.bool v) ∧ Below w.heap.size w w' := by
  rw [← hv]; exact implValidWishes_calls ao n cap L w h
/-- Integers in new memory, read. -/
def IntsAt (w : World) (n : Nat) (L : Nat → Int) (e : Ending) (w' : World) : Prop :=
  ∃ ao cap, e = .returned (.slice ao n cap) ∧ RdI w' ao n cap L ∧ Below w.heap.size w w'
theorem implServe_good {q : Nat} (hk : okS L n (q : Int) = true) (h : RdW w ao n cap L) : Calls Try.prog 27 #[.slice ao n cap, .int .i64 q] w (IntsAt w n (outW L q)) := by
  refine (implServeTimes_calls ao n cap L q w h).mono ?_
  rintro e w' ⟨hz, v, rfl, ho, ⟨a, c, rfl⟩, hb⟩
  have e1 : serveN L n (q : Int) = n := by simp [serveN, hk]
  have e2 : serveT L n (q : Int) = (List.range n).map (outW L q) := by simp [serveT, hk]
  rw [e1, e2] at ho
  rw [e1]
  exact ⟨a, c, rfl, RdI_of_ownF ho, hb⟩
theorem specServe_good {q : Nat} (hk : okS L n (q : Int) = true) (h : RdW w ao n cap L) : Calls Try.prog 29 #[.slice ao n cap, .int .i64 q] w (IntsAt w n (outW L q)) := by
  refine (specServeTimes_calls ao n cap L q w h).mono ?_
  rintro e w' ⟨hz, v, rfl, ho, ⟨a, c, rfl⟩, hb⟩
  have e1 : serveN L n (q : Int) = n := by simp [serveN, hk]
  have e2 : serveT L n (q : Int) = (List.range n).map (outW L q) := by simp [serveT, hk]
  rw [e1, e2] at ho
  rw [e1]
  exact ⟨a, c, rfl, RdI_of_ownF ho, hb⟩
theorem implServe_bad (hk : okS L n many = false) (h : RdW w ao n cap L) : Calls Try.prog 27 #[.slice ao n cap, .int .i64 many] w (IntsAt w 0 (fun _ => 0)) := by
  refine (implServeTimes_calls ao n cap L many w h).mono ?_
  rintro e w' ⟨hz, v, rfl, ho, ⟨a, c, rfl⟩, hb⟩
  have e1 : serveN L n many = 0 := by simp [serveN, hk]
  have e2 : serveT L n many = [] := by simp [serveT, hk]
  rw [e1, e2] at ho
  rw [e1]
  exact ⟨a, c, rfl, RdI_of_ownF (n := 0) ho, hb⟩
theorem specServe_bad (hk : okS L n many = false) (h : RdW w ao n cap L) : Calls Try.prog 29 #[.slice ao n cap, .int .i64 many] w (IntsAt w 0 (fun _ => 0)) := by
  refine (specServeTimes_calls ao n cap L many w h).mono ?_
  rintro e w' ⟨hz, v, rfl, ho, ⟨a, c, rfl⟩, hb⟩
  have e1 : serveN L n many = 0 := by simp [serveN, hk]
  have e2 : serveT L n many = [] := by simp [serveT, hk]
  rw [e1, e2] at ho
  rw [e1]
  exact ⟨a, c, rfl, RdI_of_ownF (n := 0) ho, hb⟩
theorem equal_at {a b : Option Addr} {c d : Nat} {I : Nat → Int} (h : RdI w a n c I) (h' : RdI w b n d I) : Calls Try.prog 28 #[.slice a n c, .slice b n d] w fun e w' => e = .returned (.bool true) ∧ Below w.heap.size w w' := equalInts_calls a b n c d I w h h'
end
theorem okS_nat {L : Nat → Wi} {n : Nat} {many : Int} (h : okS L n many = true) : ∃ q : Nat, many = (q : Int) ∧ 1 ≤ q ∧ q ≤ 6 := by
  have := okS_yes h
  exact ⟨many.toNat, by omega, by omega, by omega⟩
theorem okS_le {L : Nat → Wi} {n k : Nat} {many : Int} (h : okS L n many = true) (hk : k ≤ n) : okS L k many = true := by
  simp only [okS, Bool.and_eq_true] at h ⊢
  have hv := vW_yes h.1
  refine ⟨?_, h.2⟩
  simp only [vW, Bool.and_eq_true, decide_eq_true_eq]
  exact ⟨okW_le hv.1 k hk, by omega⟩

theorem fnCountServed_walk (ao : Option Addr) (n cap : Nat) (c : Nat → Int) (w : World) (h : Code8 w ao n cap c) : Calls Try.prog 13 #[.slice ao n cap] w (SaysTrue w) := by
  have hcap := code_len h
  by_cases hn : 1048576 < n
  · go_enter Try.func13, Try.ntmps13
    go_wp2
    go_ret
    exact ⟨rfl, Below.refl _ _⟩
  · go_enter Try.func13, Try.ntmps13
    go_wp2_with fail
    refine (drawCountServed_calls ao n cap c w h).mono ?_
    rintro e w1 ⟨L, m, a, k, u, rfl, hm, hu0, hu1, R1, B1⟩
    have D1 := Below.refl w1.heap.size w1
    have hml := R1.len
    cases hk : okS L m u
    · have HE := Lib.hid (show countS L m u = -1 by simp [countS, hk])
      clear hk
      go_wp2_with fail
      refine (implCountServed_v HE.out R1).mono ?_
      rintro e w2 ⟨rfl, hb2⟩
      have D2 := D1.trans (hb2.mono D1.size)
      go_wp2_with fail
      refine (specCountServed_v HE.out (R1.below D2)).mono ?_
      rintro e w3 ⟨rfl, hb3⟩
      have D3 := D2.trans (hb3.mono D2.size)
      go_wp2_with fail
      refine (specCountServed_v HE.out (R1.below D3)).mono ?_
      rintro e w4 ⟨rfl, hb4⟩
      have D4 := D3.trans (hb4.mono D3.size)
      go_wp2
      go_ret
      exact ⟨rfl, B1.trans (D4.mono B1.size)⟩
    · obtain ⟨q, rfl, hq1, hq6⟩ := okS_nat hk
      have HE := Lib.hid (show countS L m (q : Int) = (cntW L q m : Int) by simp [countS, hk])
      have hcl := cntW_le L q m
      have HOK := Lib.hid (vW_yes (okS_yes hk).1).1
      have HK := Lib.hid hk
      have hpos : 0 < m → 1 ≤ cntW L q m := fun h0 => cntW_pos HOK.out q h0
      clear hk
      go_wp2_with fail
      refine (implCountServed_v HE.out R1).mono ?_
      rintro e w2 ⟨rfl, hb2⟩
      have D2 := D1.trans (hb2.mono D1.size)
      go_wp2_with fail
      refine (specCountServed_v HE.out (R1.below D2)).mono ?_
      rintro e w3 ⟨rfl, hb3⟩
      have D3 := D2.trans (hb3.mono D2.size)
      go_wp2_with fail
      refine (implServe_good HK.out (R1.below D3)).mono ?_
      rintro e w4 ⟨ag, cg, rfl, RG, hb4⟩
      have D4 := D3.trans (hb4.mono D3.size)
      go_wp2
      go_loopw [7, 8] (fun t i wr => ∃ k : Nat, k ≤ m ∧ i = .int .i64 k ∧ t = .int .i64 (cntW L q k : Nat) ∧ Below w4.heap.size w4 wr) (fun _ i _ => m - (intOf i).toNat)
      case atStart => exact ⟨0, Nat.zero_le _, rfl, rfl, Below.refl _ _⟩
      case round =>
        obtain ⟨j, hj, rfl, rfl, hB⟩ := hrel
        have hcl := cntW_le L q j
        by_cases hlt : j < m
        · obtain ⟨b, off, rfl, hbb, hc⟩ := RG.pos (by omega)
          have c0 := (hB.cell (p := ⟨b, off + j, none⟩) hbb).trans (hc j hlt)
          have i0 : (j : Int) < (m : Int) := by omega
          clear hc
          by_cases h0 : 0 ≤ outW L q j
          · have HS := Lib.hid (cnt_yes h0)
            go_wp2
            go_roundw
            case rel => exact ⟨j + 1, by omega, by go_num, by rw [HS.out]; go_num, by go_grown⟩
            case measure => simp [intOf]; omega
          · have HS := Lib.hid (cnt_no (show outW L q j < 0 by omega))
            go_wp2
            go_roundw
            case rel => exact ⟨j + 1, by omega, by go_num, by rw [HS.out], by go_grown⟩
            case measure => simp [intOf]; omega
        · obtain rfl : j = m := by omega
          rcases Nat.eq_zero_or_pos j with h0 | h0
          · subst h0
            go_wp2
            go_ret
            exact ⟨ret_bool (by simp), B1.trans ((D4.trans (hB.mono D4.size)).mono B1.size)⟩
          · have hp := hpos h0
            clear hpos
            go_wp2
            go_ret
            exact ⟨ret_bool (by simp; omega), B1.trans ((D4.trans (hB.mono D4.size)).mono B1.size)⟩

theorem fnServeTimesShort_walk (ao : Option Addr) (n cap : Nat) (c : Nat → Int) (w : World) (h : Code8 w ao n cap c) : Calls Try.prog 8 #[.slice ao n cap] w (SaysTrue w) := by
  have hcap := code_len h
  by_cases hn : 1048576 < n
  · go_enter Try.func8, Try.ntmps8
    go_wp2
    go_ret
    exact ⟨rfl, Below.refl _ _⟩
  · go_enter Try.func8, Try.ntmps8
    go_wp2_with fail
    refine (drawServeTimes_calls ao n cap c w h).mono ?_
    rintro e w1 ⟨L, m, a, k, u, rfl, hm, hu0, hu1, R1, B1⟩
    have D1 := Below.refl w1.heap.size w1
    have hml := R1.len
    cases hk : okS L m u
    · have HK := Lib.hid hk
      clear hk
      go_wp2_with fail
      refine (implServe_bad HK.out R1).mono ?_
      rintro e w2 ⟨ag, cg, rfl, RG, hb2⟩
      have D2 := D1.trans (hb2.mono D1.size)
      go_wp2_with fail
      refine (specServe_bad HK.out (R1.below D2)).mono ?_
      rintro e w3 ⟨sa, cs, rfl, RS3, hb3⟩
      have D3 := D2.trans (hb3.mono D2.size)
      go_wp2_with fail
      refine (equal_at (RG.below hb3) RS3).mono ?_
      rintro e w4 ⟨rfl, hb4⟩
      have D4 := D3.trans (hb4.mono D3.size)
      go_wp2_with fail
      refine (specServe_bad HK.out (R1.below D4)).mono ?_
      rintro e w5 ⟨sa5, cs5, rfl, RS5, hb5⟩
      have D5 := D4.trans (hb5.mono D4.size)
      go_wp2_with fail
      refine (equal_at (((RG.below hb3).below hb4).below hb5) RS5).mono ?_
      rintro e w6 ⟨rfl, hb6⟩
      have D6 := D5.trans (hb6.mono D5.size)
      go_wp2
      go_ret
      exact ⟨rfl, B1.trans (D6.mono B1.size)⟩
    · obtain ⟨q, rfl, hq1, hq6⟩ := okS_nat hk
      have HK := Lib.hid hk
      have HK1 := Lib.hid (okS_le hk (show m - 1 ≤ m by omega))
      clear hk
      go_wp2_with fail
      refine (implServe_good HK.out R1).mono ?_
      rintro e w2 ⟨ag, cg, rfl, RG, hb2⟩
      have D2 := D1.trans (hb2.mono D1.size)
      go_wp2_with fail
      refine (specServe_good HK.out (R1.below D2)).mono ?_
      rintro e w3 ⟨sa, cs, rfl, RS3, hb3⟩
      have D3 := D2.trans (hb3.mono D2.size)
      go_wp2_with fail
      refine (equal_at (RG.below hb3) RS3).mono ?_
      rintro e w4 ⟨rfl, hb4⟩
      have D4 := D3.trans (hb4.mono D3.size)
      rcases Nat.eq_zero_or_pos m with h0 | h0
      · subst h0
        go_wp2_with fail
        refine (specServe_good HK.out (R1.below D4)).mono ?_
        rintro e w5 ⟨sa5, cs5, rfl, RS5, hb5⟩
        have D5 := D4.trans (hb5.mono D4.size)
        go_wp2_with fail
        refine (equal_at (((RG.below hb3).below hb4).below hb5) RS5).mono ?_
        rintro e w6 ⟨rfl, hb6⟩
        have D6 := D5.trans (hb6.mono D5.size)
        go_wp2
        go_ret
        exact ⟨rfl, B1.trans (D6.mono B1.size)⟩
      · obtain ⟨m', rfl⟩ : ∃ m', m = m' + 1 := ⟨m - 1, by omega⟩
        simp only [Nat.add_sub_cancel] at HK1
        obtain ⟨b, off, ea, _, _⟩ := R1.pos h0
        obtain ⟨b2, off2, eg, _, _⟩ := RG.pos h0
        subst ea eg
        have hk1 := R1.1
        have hg1 := RG.1
        have hk2 := R1.2.1
        have hg2 := RG.2.1
        unfold maxLen at hk2 hg2
        have i1 : (m' : Int) ≤ (k : Int) := by omega
        have i2 : (m' : Int) ≤ (cg : Int) := by omega
        have i3 : (0 : Int) ≤ (m' : Int) := by omega
        have RG4 := (RG.below hb3).below hb4
        have z4 := D4.size
        go_wp2_with fail
        go_region_held3 (fun _ => True) (trivial)
          (first | (go_at_call 27; refine (implServe_good HK1.out (Rd.take (R1.below (below_drew D4)) (by omega))).mono ?_; rintro e w5 ⟨a5, c5, rfl, R5, hb5⟩; have D5 : Below w1.heap.size w1 w5 := (below_drew D4).trans (hb5.mono z4)) | (go_at_call 28; refine (equal_at R5 (Rd.take (RdI.below (w := World.drew _) RG4 hb5) (by omega))).mono ?_; rintro e w6 ⟨rfl, hb6⟩; have D6 := D5.trans (hb6.mono D5.size)))
        go_wp2
        go_ret
        exact ⟨rfl, B1.trans (D6.mono B1.size)⟩

theorem waitS_good {L : Nat → Wi} {n q : Nat} (hk : okS L n (q : Int) = true) : waitS L n (q : Int) = longW L q n := by simp [waitS, hk]
theorem fnLongestWaitShort_walk (ao : Option Addr) (n cap : Nat) (c : Nat → Int) (w : World) (h : Code8 w ao n cap c) : Calls Try.prog 9 #[.slice ao n cap] w (SaysTrue w) := by
  have hcap := code_len h
  by_cases hn : 1048576 < n
  · go_enter Try.func9, Try.ntmps9
    go_wp2
    go_ret
    exact ⟨rfl, Below.refl _ _⟩
  · go_enter Try.func9, Try.ntmps9
    go_wp2_with fail
    refine (drawLongestWait_calls ao n cap c w h).mono ?_
    rintro e w1 ⟨L, m, a, k, u, rfl, hm, hu0, hu1, R1, B1⟩
    have D1 := Below.refl w1.heap.size w1
    have hml := R1.len
    cases hk : okS L m u
    · have HE := Lib.hid (show waitS L m u = -1 by simp [waitS, hk])
      clear hk
      go_wp2_with fail
      refine (implLongestWait_v HE.out R1).mono ?_
      rintro e w2 ⟨rfl, hb2⟩
      have D2 := D1.trans (hb2.mono D1.size)
      go_wp2_with fail
      refine (specLongestWait_v HE.out (R1.below D2)).mono ?_
      rintro e w3 ⟨rfl, hb3⟩
      have D3 := D2.trans (hb3.mono D2.size)
      go_wp2_with fail
      refine (specLongestWait_v HE.out (R1.below D3)).mono ?_
      rintro e w4 ⟨rfl, hb4⟩
      have D4 := D3.trans (hb4.mono D3.size)
      go_wp2
      go_ret
      exact ⟨rfl, B1.trans (D4.mono B1.size)⟩
    · obtain ⟨q, rfl, hq1, hq6⟩ := okS_nat hk
      have HE := Lib.hid (waitS_good hk)
      have HK := Lib.hid hk
      have HOK := Lib.hid (vW_yes (okS_yes hk).1).1
      have hl0 := longW_nonneg L q m
      clear hk
      go_wp2_with fail
      refine (implLongestWait_v HE.out R1).mono ?_
      rintro e w2 ⟨rfl, hb2⟩
      have D2 := D1.trans (hb2.mono D1.size)
      go_wp2_with fail
      refine (specLongestWait_v HE.out (R1.below D2)).mono ?_
      rintro e w3 ⟨rfl, hb3⟩
      have D3 := D2.trans (hb3.mono D2.size)
      rcases Nat.eq_zero_or_pos m with h0 | h0
      · subst h0
        go_wp2_with fail
        refine (specLongestWait_v HE.out (R1.below D3)).mono ?_
        rintro e w4 ⟨rfl, hb4⟩
        have D4 := D3.trans (hb4.mono D3.size)
        go_wp2
        go_ret
        exact ⟨ret_bool (by simp), B1.trans (D4.mono B1.size)⟩
      · obtain ⟨m', rfl⟩ : ∃ m', m = m' + 1 := ⟨m - 1, by omega⟩
        have h0' : (((m' : Nat) : Int) + 1 == 0) = false := by simp; omega
        have HE1 := Lib.hid (waitS_good (okS_le HK.out (show m' ≤ m' + 1 by omega)))
        have HE2 := Lib.hid (show waitS L 1 (q : Int) = 0 by rw [waitS_good (okS_le HK.out (show 1 ≤ m' + 1 by omega)), longW_one HOK.out q (by omega)])
        have hle := longW_mono L q m' (m' + 1) (by omega)
        obtain ⟨b, off, ea, _, _⟩ := R1.pos h0
        subst ea
        have hk1 := R1.1
        have hk2 := R1.2.1
        unfold maxLen at hk2
        go_wp2_with fail
        refine (implLongestWait_v HE1.out (Rd.take (R1.below D3) (by omega))).mono ?_
        rintro e w4 ⟨rfl, hb4⟩
        have D4 := D3.trans (hb4.mono D3.size)
        go_wp2_with fail
        refine (implLongestWait_v HE2.out (Rd.take (R1.below D4) (by omega))).mono ?_
        rintro e w5 ⟨rfl, hb5⟩
        have D5 := D4.trans (hb5.mono D4.size)
        go_wp2
        go_ret
        exact ⟨rfl, B1.trans (D5.mono B1.size)⟩

theorem fnConnsFor_walk (ao : Option Addr) (n cap : Nat) (c : Nat → Int) (w : World) (h : Code8 w ao n cap c) : Calls Try.prog 14 #[.slice ao n cap] w (SaysTrue w) := by
  have hcap := code_len h
  by_cases hn : 1048576 < n
  · go_enter Try.func14, Try.ntmps14
    go_wp2
    go_ret
    exact ⟨rfl, Below.refl _ _⟩
  · go_enter Try.func14, Try.ntmps14
    go_wp2_with fail
    refine (drawConnsFor_calls ao n cap c w h).mono ?_
    rintro e w1 ⟨L, m, a, k, rfl, hm, R1, B1⟩
    have D1 := Below.refl w1.heap.size w1
    have hml := R1.len
    by_cases hneg : connsFor L m = -1
    · have HE := Lib.hid hneg
      clear hneg
      go_wp2_with fail
      refine (implConnsFor_v HE.out R1).mono ?_
      rintro e w2 ⟨rfl, hb2⟩
      have D2 := D1.trans (hb2.mono D1.size)
      go_wp2_with fail
      refine (specConnsFor_v HE.out (R1.below D2)).mono ?_
      rintro e w3 ⟨rfl, hb3⟩
      have D3 := D2.trans (hb3.mono D2.size)
      go_wp2_with fail
      refine (specConnsFor_v HE.out (R1.below D3)).mono ?_
      rintro e w4 ⟨rfl, hb4⟩
      have D4 := D3.trans (hb4.mono D3.size)
      go_wp2
      go_ret
      exact ⟨rfl, B1.trans (D4.mono B1.size)⟩
    · have hv : vW L m = true := by
        cases hv : vW L m
        · exact absurd (by simp [connsFor, hv]) hneg
        · rfl
      obtain ⟨q, hq1, hq6, hq, hall, hless⟩ : ∃ q : Nat, 0 < q ∧ q ≤ 6 ∧ connsFor L m = (q : Int) ∧ cntW L q m = m ∧ ∀ j, 0 < j → j < q → cntW L j m ≠ m := by
        rcases connsFor_cases L m hv with ⟨h1, _⟩ | h1
        · exact absurd h1 hneg
        · exact h1
      have HE := Lib.hid hq
      have HC := Lib.hid (show countS L m (q : Int) = (m : Int) by rw [countS_good hv hq1 hq6, hall])
      have hle := cntW_le L (q - 1) m
      have HL := Lib.hid hless
      have HV := Lib.hid hv
      clear hq hall hv hneg hless
      go_wp2_with fail
      refine (implConnsFor_v HE.out R1).mono ?_
      rintro e w2 ⟨rfl, hb2⟩
      have D2 := D1.trans (hb2.mono D1.size)
      go_wp2_with fail
      refine (specConnsFor_v HE.out (R1.below D2)).mono ?_
      rintro e w3 ⟨rfl, hb3⟩
      have D3 := D2.trans (hb3.mono D2.size)
      go_wp2_with fail
      refine (implCountServed_v HC.out (R1.below D3)).mono ?_
      rintro e w4 ⟨rfl, hb4⟩
      have D4 := D3.trans (hb4.mono D3.size)
      by_cases h1 : q = 1
      · subst h1
        go_wp2
        go_ret
        exact ⟨rfl, B1.trans (D4.mono B1.size)⟩
      · obtain ⟨q', rfl⟩ : ∃ q', q = q' + 1 := ⟨q - 1, by omega⟩
        have h1' : (((q' + 1 : Nat) : Int) == 1) = false := by simp; omega
        have hne : cntW L q' m ≠ m := HL.out q' (by omega) (by omega)
        have hlt : cntW L q' m < m := by simp at hle; omega
        have HC' := Lib.hid (countS_good HV.out (show 0 < q' by omega) (show q' ≤ 6 by omega))
        have hsub : ((q' + 1 : Nat) : Int) - 1 = (q' : Int) := by omega
        clear hne
        go_wp2_with fail
        refine (implCountServed_v HC'.out (R1.below D4)).mono ?_
        rintro e w5 ⟨rfl, hb5⟩
        have D5 := D4.trans (hb5.mono D4.size)
        go_wp2
        go_ret
        exact ⟨rfl, B1.trans (D5.mono B1.size)⟩

theorem fnConnsForFew_walk (ao : Option Addr) (n cap : Nat) (c : Nat → Int) (w : World) (h : Code8 w ao n cap c) : Calls Try.prog 15 #[.slice ao n cap] w (SaysTrue w) := by
  have hcap := code_len h
  by_cases hn : 1048576 < n
  · go_enter Try.func15, Try.ntmps15
    go_wp2
    go_ret
    exact ⟨rfl, Below.refl _ _⟩
  · go_enter Try.func15, Try.ntmps15
    go_wp2_with fail
    refine (drawConnsFor_calls ao n cap c w h).mono ?_
    rintro e w1 ⟨L, m, a, k, rfl, hm, R1, B1⟩
    have D1 := Below.refl w1.heap.size w1
    have hml := R1.len
    generalize hcf : connsFor L m = cf
    have HE := Lib.hid hcf
    go_wp2_with fail
    refine (implConnsFor_v HE.out R1).mono ?_
    rintro e w2 ⟨rfl, hb2⟩
    have D2 := D1.trans (hb2.mono D1.size)
    go_wp2_with fail
    refine (specConnsFor_v HE.out (R1.below D2)).mono ?_
    rintro e w3 ⟨rfl, hb3⟩
    have D3 := D2.trans (hb3.mono D2.size)
    cases hv : vW L m
    · have HV := Lib.hid hv
      clear hv hcf
      go_wp2_with fail
      refine (implValidWishes_v HV.out (R1.below D3)).mono ?_
      rintro e w4 ⟨rfl, hb4⟩
      have D4 := D3.trans (hb4.mono D3.size)
      go_wp2_with fail
      refine (specConnsFor_v HE.out (R1.below D4)).mono ?_
      rintro e w5 ⟨rfl, hb5⟩
      have D5 := D4.trans (hb5.mono D4.size)
      go_wp2
      go_ret
      exact ⟨ret_bool (by simp), B1.trans (D5.mono B1.size)⟩
    · have HV := Lib.hid hv
      have hcase := connsFor_cases L m hv
      rw [hcf] at hcase
      have HCA := Lib.hid hcase
      clear hv hcf hcase
      go_wp2_with fail
      refine (implValidWishes_v HV.out (R1.below D3)).mono ?_
      rintro e w4 ⟨rfl, hb4⟩
      have D4 := D3.trans (hb4.mono D3.size)
      by_cases h0 : m = 0
      · subst h0
        go_wp2_with fail
        refine (specConnsFor_v HE.out (R1.below D4)).mono ?_
        rintro e w5 ⟨rfl, hb5⟩
        have D5 := D4.trans (hb5.mono D4.size)
        go_wp2
        go_ret
        exact ⟨ret_bool (by simp), B1.trans (D5.mono B1.size)⟩
      · have h0' : ((m : Int) == 0) = false := by simp; omega
        by_cases h6 : 6 < m
        · skip
          go_wp2_with fail
          refine (specConnsFor_v HE.out (R1.below D4)).mono ?_
          rintro e w5 ⟨rfl, hb5⟩
          have D5 := D4.trans (hb5.mono D4.size)
          go_wp2
          go_ret
          exact ⟨ret_bool (by simp), B1.trans (D5.mono B1.size)⟩
        · have hall : cntW L m m = m := all_served (vW_yes HV.out).1 m (Nat.le_refl _) (by omega)
          have hb : 1 ≤ cf ∧ cf ≤ (m : Int) := by
            rcases HCA.out with ⟨_, h2⟩ | ⟨q, q1, q2, q3, q4, q5⟩
            · exact absurd hall (h2 m (by omega) (by omega))
            · have : ¬ m < q := fun hh => q5 m (by omega) hh hall
              omega
          obtain ⟨hb1, hb2⟩ := hb
          clear hall
          go_wp2
          go_ret
          exact ⟨rfl, B1.trans (D4.mono B1.size)⟩

theorem fnConnsForShort_walk (ao : Option Addr) (n cap : Nat) (c : Nat → Int) (w : World) (h : Code8 w ao n cap c) : Calls Try.prog 16 #[.slice ao n cap] w (SaysTrue w) := by
  have hcap := code_len h
  by_cases hn : 1048576 < n
  · go_enter Try.func16, Try.ntmps16
    go_wp2
    go_ret
    exact ⟨rfl, Below.refl _ _⟩
  · go_enter Try.func16, Try.ntmps16
    go_wp2_with fail
    refine (drawConnsFor_calls ao n cap c w h).mono ?_
    rintro e w1 ⟨L, m, a, k, rfl, hm, R1, B1⟩
    have D1 := Below.refl w1.heap.size w1
    have hml := R1.len
    by_cases hneg : connsFor L m = -1
    · have HE := Lib.hid hneg
      clear hneg
      go_wp2_with fail
      refine (implConnsFor_v HE.out R1).mono ?_
      rintro e w2 ⟨rfl, hb2⟩
      have D2 := D1.trans (hb2.mono D1.size)
      go_wp2_with fail
      refine (specConnsFor_v HE.out (R1.below D2)).mono ?_
      rintro e w3 ⟨rfl, hb3⟩
      have D3 := D2.trans (hb3.mono D2.size)
      go_wp2_with fail
      refine (specConnsFor_v HE.out (R1.below D3)).mono ?_
      rintro e w4 ⟨rfl, hb4⟩
      have D4 := D3.trans (hb4.mono D3.size)
      go_wp2
      go_ret
      exact ⟨rfl, B1.trans (D4.mono B1.size)⟩
    · have hv : vW L m = true := by
        cases hv : vW L m
        · exact absurd (by simp [connsFor, hv]) hneg
        · rfl
      obtain ⟨q, hq1, hq6, hq, hall, hless⟩ : ∃ q : Nat, 0 < q ∧ q ≤ 6 ∧ connsFor L m = (q : Int) ∧ cntW L q m = m ∧ ∀ j, 0 < j → j < q → cntW L j m ≠ m := by
        rcases connsFor_cases L m hv with ⟨h1, _⟩ | h1
        · exact absurd h1 hneg
        · exact h1
      have HE := Lib.hid hq
      have HA := Lib.hid hall
      have HV := Lib.hid hv
      clear hq hall hv hneg hless
      go_wp2_with fail
      refine (implConnsFor_v HE.out R1).mono ?_
      rintro e w2 ⟨rfl, hb2⟩
      have D2 := D1.trans (hb2.mono D1.size)
      go_wp2_with fail
      refine (specConnsFor_v HE.out (R1.below D2)).mono ?_
      rintro e w3 ⟨rfl, hb3⟩
      have D3 := D2.trans (hb3.mono D2.size)
      by_cases h0 : m = 0
      · subst h0
        go_wp2_with fail
        refine (specConnsFor_v HE.out (R1.below D3)).mono ?_
        rintro e w4 ⟨rfl, hb4⟩
        have D4 := D3.trans (hb4.mono D3.size)
        go_wp2
        go_ret
        exact ⟨ret_bool (by simp), B1.trans (D4.mono B1.size)⟩
      · obtain ⟨m', rfl⟩ : ∃ m', m = m' + 1 := ⟨m - 1, by omega⟩
        have h0' : (((m' : Nat) : Int) + 1 == 0) = false := by simp; omega
        have hall' : cntW L q m' = m' := by
          have := cntW_all.1 HA.out
          exact cntW_all.2 fun k hk => this k (by omega)
        have hv' : vW L m' = true := by
          have hv := vW_yes HV.out
          simp only [vW, Bool.and_eq_true, decide_eq_true_eq]
          exact ⟨okW_le hv.1 m' (by omega), by omega⟩
        obtain ⟨q', p1, p2, p3, p4⟩ : ∃ q' : Nat, 0 < q' ∧ q' ≤ 6 ∧ connsFor L m' = (q' : Int) ∧ q' ≤ q := by
          rcases connsFor_cases L m' hv' with ⟨_, h2⟩ | ⟨q', h1, h2, h3, h4, h5⟩
          · exact absurd hall' (h2 q (by omega) hq6)
          · exact ⟨q', h1, h2, h3, by
              have : ¬ q < q' := fun hh => h5 q hq1 hh hall'
              omega⟩
        have HE' := Lib.hid p3
        have HN := Lib.hid (show connsFor (fun _ => default) 0 = 1 by rfl)
        obtain ⟨b, off, ea, _, _⟩ := R1.pos (show 0 < m' + 1 by omega)
        subst ea
        have hk1 := R1.1
        have hk2 := R1.2.1
        unfold maxLen at hk2
        clear p3 hall' hv'
        go_wp2_with fail
        refine (implConnsFor_v HE'.out (Rd.take (R1.below D3) (by omega))).mono ?_
        rintro e w4 ⟨rfl, hb4⟩
        have D4 := D3.trans (hb4.mono D3.size)
        go_wp2_with fail
        refine (implConnsFor_v HN.out (Rd.nil _ _ _)).mono ?_
        rintro e w5 ⟨rfl, hb5⟩
        have D5 := D4.trans (hb5.mono D4.size)
        go_wp2
        go_ret
        exact ⟨rfl, B1.trans (D5.mono B1.size)⟩
end Go.Proofs.Ytmabhoglnapgdaa
