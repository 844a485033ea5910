/- ConnsFor of program and reference. -/
import Derived.Test.YtmabhoglnapgdaaServe3
namespace Go.Proofs.Ytmabhoglnapgdaa
open Go.ChangeShapes Go.WideShapes Go.ChangeAt Go.RowKit
set_option linter.unusedVariables false

theorem countS_good {L : Nat → Wi} {n m : Nat} (hv : vW L n = true) (h0 : 0 < m) (h6 : m ≤ 6) : countS L n (m : Int) = (cntW L m n : Int) := by
  have : okS L n (m : Int) = true := by simp only [okS, hv, Bool.true_and]; exact inB_mk (by omega)
  simp [countS, this]
theorem cf_yes {L : Nat → Wi} {n k : Nat} (h1 : 1 ≤ k) (h6 : k ≤ 6) (h : cntW L k n = n) : cfW L n (7 - k) = (k : Int) := by
  obtain ⟨d, hd⟩ : ∃ d, 7 - k = d + 1 := ⟨6 - k, by omega⟩
  have e : 6 - d = k := by omega
  rw [hd, cfW, e, if_pos h]
theorem cf_no {L : Nat → Wi} {n k : Nat} (h1 : 1 ≤ k) (h6 : k ≤ 6) (h : cntW L k n ≠ n) : cfW L n (7 - k) = cfW L n (7 - (k + 1)) := by
  obtain ⟨d, hd⟩ : ∃ d, 7 - k = d + 1 := ⟨6 - k, by omega⟩
  have e : 6 - d = k := by omega
  have e2 : 7 - (k + 1) = d := by omega
  rw [hd, cfW, e, if_neg h, e2]

theorem implConnsFor_calls (ao : Option Addr) (n cap : Nat) (L : Nat → Wi) (w : World) (h : RdW w ao n cap L) :
    Calls Try.prog 37 #[.slice ao n cap] w fun e w' => e = .returned (.int .i64 (connsFor L n)) ∧ Below w.heap.size w w' := by
  have hlen := h.len
  cases hv : vW L n
  · have V := implValidWishes_calls ao n cap L w h
    rw [hv] at V
    have e1 : connsFor L n = -1 := by simp [connsFor, hv]
    rw [e1]
    clear e1 hv
    go_enter Try.func37, Try.ntmps37
    go_wp2
    refine wp_loop_rounds 1 ?_
    rw [rounds_succ]
    go_wp2_with (go_at_call 21; refine (V).mono ?_; rintro e w' ⟨rfl, hb⟩)
    go_ret
    exact ⟨rfl, hb⟩
  · have e1 : connsFor L n = cfW L n 6 := by simp [connsFor, hv]
    rw [e1]
    have hn12 := (vW_yes hv).2
    have HV := Lib.hid hv
    clear e1 hv
    go_enter Try.func37, Try.ntmps37
    go_wp2
    go_loopw [3] (fun i wr => ∃ k : Nat, 1 ≤ k ∧ k ≤ 7 ∧ i = .int .i64 k ∧ cfW L n 6 = cfW L n (7 - k) ∧ Below w.heap.size w wr) (fun i _ => 7 - (intOf i).toNat)
    case atStart => exact ⟨1, by omega, by omega, rfl, rfl, Below.refl _ _⟩
    case round =>
      obtain ⟨k, hk1, hk, rfl, hcf, hB⟩ := hrel
      have HC := Lib.hid hcf
      clear hcf
      by_cases hlt : k < 7
      · have V := implValidWishes_calls ao n cap L wr (h.below hB)
        rw [HV.out] at V
        have hcl := cntW_le L k n
        have hcd := countS_good HV.out (show 0 < k by omega) (show k ≤ 6 by omega)
        go_wp2_with (go_at_call 21; refine (V).mono ?_; rintro e w' ⟨rfl, hb⟩)
        have hBB := hB.trans (hb.mono hB.size)
        have C := implCountServed_calls ao n cap L (k : Int) w' (h.below hBB)
        rw [hcd] at C
        clear hcd
        by_cases he : cntW L k n = n
        · have HE := Lib.hid (cf_yes (L := L) (n := n) hk1 (by omega) he)
          rw [he] at C
          clear he hcl
          go_wp2_with (go_at_call 34; refine (C).mono ?_; rintro e w' ⟨rfl, hb2⟩)
          go_ret
          exact ⟨ret_int (by rw [HC.out, HE.out]), hBB.trans (hb2.mono hBB.size)⟩
        · have HE := Lib.hid (cf_no (L := L) (n := n) hk1 (by omega) he)
          have hd : ((cntW L k n : Nat) == n) = false := by simpa using he
          clear he
          go_wp2_with (go_at_call 34; refine (C).mono ?_; rintro e w' ⟨rfl, hb2⟩)
          go_roundw
          case rel => exact ⟨k + 1, by omega, by omega, by go_num, by rw [HC.out, HE.out], hBB.trans (hb2.mono hBB.size)⟩
          case measure => simp [intOf]; omega
      · obtain rfl : k = 7 := by omega
        go_wp2
        go_ret
        exact ⟨ret_int (by rw [HC.out]; rfl), hB⟩

theorem specConnsFor_calls (ao : Option Addr) (n cap : Nat) (L : Nat → Wi) (w : World) (h : RdW w ao n cap L) :
    Calls Try.prog 38 #[.slice ao n cap] w fun e w' => e = .returned (.int .i64 (connsFor L n)) ∧ Below w.heap.size w w' := by
  have hlen := h.len
  have V := specvalidWishes_calls ao n cap L w h
  cases hv : vW L n
  · rw [hv] at V
    have e1 : connsFor L n = -1 := by simp [connsFor, hv]
    rw [e1]
    clear e1 hv
    go_enter Try.func38, Try.ntmps38
    go_wp2_with (go_at_call 46; refine (V).mono ?_; rintro e w' ⟨rfl, hb⟩)
    go_ret
    exact ⟨rfl, hb⟩
  · rw [hv] at V
    have e1 : connsFor L n = cfW L n 6 := by simp [connsFor, hv]
    rw [e1]
    have hn12 := (vW_yes hv).2
    have HV := Lib.hid hv
    clear e1 hv
    go_enter Try.func38, Try.ntmps38
    go_wp2_with (go_at_call 46; refine (V).mono ?_; rintro e w' ⟨rfl, hb⟩)
    clear V
    go_loopw [3] (fun i wr => ∃ k : Nat, 1 ≤ k ∧ k ≤ 7 ∧ i = .int .i64 k ∧ cfW L n 6 = cfW L n (7 - k) ∧ Below w.heap.size w wr) (fun i _ => 7 - (intOf i).toNat)
    case atStart => exact ⟨1, by omega, by omega, rfl, rfl, hb⟩
    case round =>
      obtain ⟨k, hk1, hk, rfl, hcf, hB⟩ := hrel
      have HC := Lib.hid hcf
      clear hcf
      by_cases hlt : k < 7
      · have hcl := cntW_le L k n
        have hcd := countS_good HV.out (show 0 < k by omega) (show k ≤ 6 by omega)
        have C := specCountServed_calls ao n cap L (k : Int) wr (h.below hB)
        rw [hcd] at C
        clear hcd
        by_cases he : cntW L k n = n
        · have HE := Lib.hid (cf_yes (L := L) (n := n) hk1 (by omega) he)
          rw [he] at C
          clear he hcl
          go_wp2_with (go_at_call 33; refine (C).mono ?_; rintro e w' ⟨rfl, hb2⟩)
          go_ret
          exact ⟨ret_int (by rw [HC.out, HE.out]), hB.trans (hb2.mono hB.size)⟩
        · have HE := Lib.hid (cf_no (L := L) (n := n) hk1 (by omega) he)
          have hd : ((cntW L k n : Nat) == n) = false := by simpa using he
          clear he
          go_wp2_with (go_at_call 33; refine (C).mono ?_; rintro e w' ⟨rfl, hb2⟩)
          go_roundw
          case rel => exact ⟨k + 1, by omega, by omega, by go_num, by rw [HC.out, HE.out], hB.trans (hb2.mono hB.size)⟩
          case measure => simp [intOf]; omega
      · obtain rfl : k = 7 := by omega
        go_wp2
        go_ret
        exact ⟨ret_int (by rw [HC.out]; rfl), hB⟩
end Go.Proofs.Ytmabhoglnapgdaa
