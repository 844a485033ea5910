/- CountServed, LongestWait of the reference; LongestWait of the program. -/
import Derived.Test.YtmabhoglnapgdaaServe2
namespace Go.Proofs.Ytmabhoglnapgdaa
open Go.ChangeShapes Go.WideShapes Go.ChangeAt Go.RowKit
set_option linter.unusedVariables false

theorem toInt_yes (w : World) : Calls Try.prog 53 #[.bool true] w fun e w' => e = .returned (.int .i64 1) ∧ w = w' := by
  go_enter Try.func53, Try.ntmps53
  go_wp2
  go_ret
  exact ⟨rfl, rfl⟩
theorem toInt_no (w : World) : Calls Try.prog 53 #[.bool false] w fun e w' => e = .returned (.int .i64 0) ∧ w = w' := by
  go_enter Try.func53, Try.ntmps53
  go_wp2
  go_ret
  exact ⟨rfl, rfl⟩
theorem toInt_calls (b : Bool) (w : World) : Calls Try.prog 53 #[.bool b] w fun e w' => e = .returned (.int .i64 (if b then 1 else 0)) ∧ w = w' := by
  cases b
  · exact toInt_no w
  · exact toInt_yes w

/-- serve of the reference, at valid arguments. -/
theorem specserve_own {ao : Option Addr} {n cap : Nat} {L : Nat → Wi} {m : Nat} {w : World} (h : RdW w ao n cap L) (hv : vW L n = true) (hm : 0 < m) (hm6 : m ≤ 6) :
    Calls Try.prog 52 #[.slice ao n cap, .int .i64 m] w fun e w' => ∃ v, e = .returned v ∧ ∃ a c, v = .slice a n c ∧ RdI w' a n c (outW L m) ∧ Below w.heap.size w w' := by
  refine (specserve_calls ao n cap L m w h hv hm hm6).mono ?_
  rintro e w2 ⟨v, rfl, ho, ⟨a, c, rfl⟩, hb⟩
  exact ⟨_, rfl, a, c, rfl, RdI_of_ownF ho, hb⟩

theorem specCountServed_calls (ao : Option Addr) (n cap : Nat) (L : Nat → Wi) (many : Int) (w : World) (h : RdW w ao n cap L) :
    Calls Try.prog 33 #[.slice ao n cap, .int .i64 many] w fun e w' => e = .returned (.int .i64 (countS L n many)) ∧ Below w.heap.size w w' := by
  have hlen := h.len
  have V := specvalidWishes_calls ao n cap L w h
  cases hv : vW L n
  · rw [hv] at V
    have e1 : countS L n many = -1 := by simp [countS, okS, hv]
    rw [e1]
    clear e1 hv
    go_enter Try.func33, Try.ntmps33
    go_wp2_with (go_at_call 46; refine (V).mono ?_; rintro e w' ⟨rfl, hb⟩)
    go_ret
    exact ⟨rfl, hb⟩
  · rw [hv] at V
    cases hi : inB 1 6 many
    · have e1 : countS L n many = -1 := by simp [countS, okS, hi]
      rw [e1]
      clear e1 hv
      go_enter Try.func33, Try.ntmps33
      go_wp2_with first | (go_at_call 46; refine (V).mono ?_; rintro e w' ⟨rfl, hb⟩) | (go_at_call 51; refine (inRange_calls _ _ _ _).mono ?_; rintro e w' ⟨rfl, rfl⟩)
      go_ret
      exact ⟨rfl, hb⟩
    · obtain ⟨i1, i2⟩ := inB_yes hi
      obtain ⟨m, rfl⟩ : ∃ m : Nat, many = (m : Int) := ⟨many.toNat, by omega⟩
      have e1 : countS L n (m : Int) = (cntW L m n : Int) := by simp [countS, okS, hv, hi]
      rw [e1]
      have HV := Lib.hid hv
      clear e1 hv
      go_enter Try.func33, Try.ntmps33
      go_wp2_with first | (go_at_call 46; refine (V).mono ?_; rintro e w' ⟨rfl, hb⟩) | (go_at_call 51; refine (inRange_calls _ _ _ _).mono ?_; rintro e w' ⟨rfl, rfl⟩) | (go_at_call 52; refine (specserve_own (h.below hb) HV.out (by omega) (by omega)).mono ?_; rintro e w2 ⟨v, rfl, a, c, rfl, hR, hb2⟩)
      have hBB := hb.trans (hb2.mono hb.size)
      go_loopw [5, 7] (fun t i wr => ∃ k : Nat, k ≤ n ∧ i = .int .i64 k ∧ t = .int .i64 (cntW L m k : Nat) ∧ Below w2.heap.size w2 wr) (fun _ i _ => n - (intOf i).toNat)
      case atStart => exact ⟨0, Nat.zero_le _, rfl, rfl, Below.refl _ _⟩
      case round =>
        obtain ⟨k, hk, rfl, rfl, hB⟩ := hrel
        have hcl := cntW_le L m k
        by_cases hlt : k < n
        · obtain ⟨b, off, rfl, hbb, hc⟩ := hR.pos (by omega)
          have c0 := (hB.cell (p := ⟨b, off + k, none⟩) hbb).trans (hc k hlt)
          have i0 : (k : Int) < (n : Int) := by omega
          clear hc
          cases h0 : decide (0 ≤ outW L m k)
          · have HS := Lib.hid (cnt_no (show outW L m k < 0 by simpa using h0))
            go_wp2_with (go_at_call 53; refine (toInt_calls _ _).mono ?_; rintro e w' ⟨rfl, rfl⟩)
            go_roundw
            case rel => exact ⟨k + 1, by omega, by go_num, by rw [HS.out], by go_grown⟩
            case measure => simp [intOf]; omega
          · have HS := Lib.hid (cnt_yes (show 0 ≤ outW L m k by simpa using h0))
            go_wp2_with (go_at_call 53; refine (toInt_calls _ _).mono ?_; rintro e w' ⟨rfl, rfl⟩)
            go_roundw
            case rel => exact ⟨k + 1, by omega, by go_num, by rw [HS.out]; go_num, by go_grown⟩
            case measure => simp [intOf]; omega
        · obtain rfl : k = n := by omega
          go_wp2
          go_ret
          exact ⟨rfl, hBB.trans (hB.mono hBB.size)⟩

theorem long_yes {L : Nat → Wi} {m k : Nat} (h : 0 ≤ outW L m k) : longW L m (k + 1) = max (longW L m k) (outW L m k - (L k).at_) := by simp [longW, h]
theorem long_no {L : Nat → Wi} {m k : Nat} (h : outW L m k < 0) : longW L m (k + 1) = longW L m k := by
  have : ¬ 0 ≤ outW L m k := by omega
  simp [longW, this]
theorem longW_le100 {L : Nat → Wi} {n : Nat} (h : okW L n = true) (m : Nat) : ∀ k, k ≤ n → longW L m k ≤ 100 := by
  intro k
  induction k with
  | zero => intro _; simp [longW]
  | succ k ih =>
    intro hk
    have h1 := ih (by omega)
    have h2 := okW_facts h k (by omega)
    simp only [longW]
    split
    · rcases outW_facts h m k (by omega) with h3 | h3 <;> omega
    · exact h1

set_option maxHeartbeats 400000 in
theorem implLongestWait_calls (ao : Option Addr) (n cap : Nat) (L : Nat → Wi) (many : Int) (w : World) (h : RdW w ao n cap L) :
    Calls Try.prog 31 #[.slice ao n cap, .int .i64 many] w fun e w' => e = .returned (.int .i64 (waitS L n many)) ∧ Below w.heap.size w w' := by
  have hlen := h.len
  cases hk : okS L n many
  · have e1 : waitS L n many = -1 := by simp [waitS, hk]
    rw [e1]
    have HK := Lib.hid hk
    clear e1 hk
    go_enter Try.func31, Try.ntmps31
    go_wp2_with fail
    refine (implserve_calls ao n cap L many w h).mono ?_
    rintro e w1 (⟨h1, rfl, hb⟩ | ⟨h1, _⟩)
    · clear h1
      go_wp2
      go_ret
      exact ⟨rfl, hb⟩
    · rw [HK.out] at h1; simp at h1
  · obtain ⟨m, rfl⟩ : ∃ m : Nat, many = (m : Int) := ⟨many.toNat, by have := okS_yes hk; omega⟩
    have e1 : waitS L n (m : Int) = longW L m n := by simp [waitS, hk]
    rw [e1]
    have hok := (vW_yes (okS_yes hk).1).1
    have HK := Lib.hid hk
    have HOK := Lib.hid hok
    clear e1 hk hok
    go_enter Try.func31, Try.ntmps31
    go_wp2_with fail
    refine (implserve_calls ao n cap L (m : Int) w h).mono ?_
    rintro e w1 (⟨h1, _⟩ | ⟨h1, v, rfl, ho, ⟨a, c, rfl⟩, hb⟩)
    · rw [HK.out] at h1; simp at h1
    simp only [Int.toNat_natCast] at ho
    have hR := RdI_of_ownF ho
    have hL := h.below hb
    clear h1 ho
    go_wp2
    go_loopw [7, 20] (fun t i wr => ∃ k : Nat, k ≤ n ∧ i = .int .i64 k ∧ t = .int .i64 (longW L m k) ∧ Below w1.heap.size w1 wr) (fun _ i _ => n - (intOf i).toNat)
    case atStart => exact ⟨0, Nat.zero_le _, rfl, rfl, Below.refl _ _⟩
    case round =>
      obtain ⟨k, hk, rfl, rfl, hB⟩ := hrel
      have hl0 := longW_nonneg L m k
      have hl1 := longW_le100 HOK.out m k hk
      by_cases hlt : k < n
      · obtain ⟨b, off, rfl, hbb, hc⟩ := hR.pos (by omega)
        obtain ⟨b2, o2, rfl, hbb2, hc2⟩ := hL.pos (by omega)
        have c0 := (hB.cell (p := ⟨b, off + k, none⟩) hbb).trans (hc k hlt)
        have c2 := (hB.cell (p := ⟨b2, o2 + k * 3, none⟩) hbb2).trans (hc2 k hlt).1
        have ob := outW_bounds HOK.out m k hlt
        have wb := okW_facts HOK.out k hlt
        have i0 : (k : Int) < (n : Int) := by omega
        clear hc hc2
        by_cases h0 : 0 ≤ outW L m k
        · have HS := Lib.hid (long_yes h0)
          go_wp2
          go_roundw
          case rel => exact ⟨k + 1, by omega, by go_num, by rw [HS.out, Int.max_def]; split <;> split <;> first | rfl | (congr 1; omega), by go_grown⟩
          case measure => simp [intOf]; omega
        · have HS := Lib.hid (long_no (show outW L m k < 0 by omega))
          go_wp2
          go_roundw
          case rel => exact ⟨k + 1, by omega, by go_num, by rw [HS.out], by go_grown⟩
          case measure => simp [intOf]; omega
      · obtain rfl : k = n := by omega
        go_wp2
        go_ret
        exact ⟨rfl, hb.trans (hB.mono hb.size)⟩

set_option maxHeartbeats 400000 in
theorem specLongestWait_calls (ao : Option Addr) (n cap : Nat) (L : Nat → Wi) (many : Int) (w : World) (h : RdW w ao n cap L) :
    Calls Try.prog 32 #[.slice ao n cap, .int .i64 many] w fun e w' => e = .returned (.int .i64 (waitS L n many)) ∧ Below w.heap.size w w' := by
  have hlen := h.len
  have V := specvalidWishes_calls ao n cap L w h
  cases hv : vW L n
  · rw [hv] at V
    have e1 : waitS L n many = -1 := by simp [waitS, okS, hv]
    rw [e1]
    clear e1 hv
    go_enter Try.func32, Try.ntmps32
    go_wp2_with (go_at_call 46; refine (V).mono ?_; rintro e w' ⟨rfl, hb⟩)
    go_ret
    exact ⟨rfl, hb⟩
  · rw [hv] at V
    cases hi : inB 1 6 many
    · have e1 : waitS L n many = -1 := by simp [waitS, okS, hi]
      rw [e1]
      clear e1 hv
      go_enter Try.func32, Try.ntmps32
      go_wp2_with first | (go_at_call 46; refine (V).mono ?_; rintro e w' ⟨rfl, hb⟩) | (go_at_call 51; refine (inRange_calls _ _ _ _).mono ?_; rintro e w' ⟨rfl, rfl⟩)
      go_ret
      exact ⟨rfl, hb⟩
    · obtain ⟨i1, i2⟩ := inB_yes hi
      obtain ⟨m, rfl⟩ : ∃ m : Nat, many = (m : Int) := ⟨many.toNat, by omega⟩
      have e1 : waitS L n (m : Int) = longW L m n := by simp [waitS, okS, hv, hi]
      rw [e1]
      have HOK := Lib.hid (vW_yes hv).1
      have HV := Lib.hid hv
      clear e1 hv
      go_enter Try.func32, Try.ntmps32
      go_wp2_with first | (go_at_call 46; refine (V).mono ?_; rintro e w' ⟨rfl, hb⟩) | (go_at_call 51; refine (inRange_calls _ _ _ _).mono ?_; rintro e w' ⟨rfl, rfl⟩) | (go_at_call 52; refine (specserve_own (h.below hb) HV.out (by omega) (by omega)).mono ?_; rintro e w2 ⟨v, rfl, a, c, rfl, hR, hb2⟩)
      have hBB := hb.trans (hb2.mono hb.size)
      have hL := h.below hBB
      go_loopw [5, 7] (fun t i wr => ∃ k : Nat, k ≤ n ∧ i = .int .i64 k ∧ t = .int .i64 (longW L m k) ∧ Below w2.heap.size w2 wr) (fun _ i _ => n - (intOf i).toNat)
      case atStart => exact ⟨0, Nat.zero_le _, rfl, rfl, Below.refl _ _⟩
      case round =>
        obtain ⟨k, hk, rfl, rfl, hB⟩ := hrel
        have hl0 := longW_nonneg L m k
        have hl1 := longW_le100 HOK.out m k hk
        by_cases hlt : k < n
        · obtain ⟨b, off, rfl, hbb, hc⟩ := hR.pos (by omega)
          obtain ⟨b2, o2, rfl, hbb2, hc2⟩ := hL.pos (by omega)
          have c0 := (hB.cell (p := ⟨b, off + k, none⟩) hbb).trans (hc k hlt)
          have c2 := (hB.cell (p := ⟨b2, o2 + k * 3, none⟩) hbb2).trans (hc2 k hlt).1
          have ob := outW_bounds HOK.out m k hlt
          have wb := okW_facts HOK.out k hlt
          have i0 : (k : Int) < (n : Int) := by omega
          clear hc hc2
          by_cases h0 : 0 ≤ outW L m k
          · have HS := Lib.hid (long_yes h0)
            have hwr : IntKind.i64.wrap (outW L m k - (L k).at_) = outW L m k - (L k).at_ := IntWalk.i64_in _ (by omega)
            go_wp2
            go_quiet (fail)
            go_wp2
            go_roundw
            case rel => exact ⟨k + 1, by omega, by go_num, by rw [HS.out, Int.max_def]; split <;> split <;> first | rfl | (congr 1; omega), below_drewN hB _⟩
            case measure => simp [intOf]; omega
          · have HS := Lib.hid (long_no (show outW L m k < 0 by omega))
            go_wp2
            go_roundw
            case rel => exact ⟨k + 1, by omega, by go_num, by rw [HS.out], by go_grown⟩
            case measure => simp [intOf]; omega
        · obtain rfl : k = n := by omega
          go_wp2
          go_ret
          exact ⟨rfl, hBB.trans (hB.mono hBB.size)⟩
end Go.Proofs.Ytmabhoglnapgdaa
