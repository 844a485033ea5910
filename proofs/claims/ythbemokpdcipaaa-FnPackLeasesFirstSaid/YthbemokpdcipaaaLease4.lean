/- MostLeased and MeanLeased of program and reference. -/
import Derived.Test.YthbemokpdcipaaaLease3
namespace Go.Proofs.Ythbemokpdcipaaa
open Go.ChangeShapes Go.WideShapes Go.ChangeAt Go.RowKit
set_option linter.unusedVariables false

theorem toInt_yes (w : World) : Calls Try.prog 51 #[.bool true] w fun e w' => e = .returned (.int .i64 1) ∧ w = w' := by
  go_enter Try.func51, Try.ntmps51
  go_wp2
  go_ret
  exact ⟨rfl, rfl⟩
theorem toInt_no (w : World) : Calls Try.prog 51 #[.bool false] w fun e w' => e = .returned (.int .i64 0) ∧ w = w' := by
  go_enter Try.func51, Try.ntmps51
  go_wp2
  go_ret
  exact ⟨rfl, rfl⟩
theorem toInt_calls (b : Bool) (w : World) : Calls Try.prog 51 #[.bool b] w fun e w' => e = .returned (.int .i64 (if b then 1 else 0)) ∧ w = w' := by
  cases b
  · exact toInt_no w
  · exact toInt_yes w


theorem busyAt_len {L : Nat → Lz} {n : Nat} (h : vL L n = true) (t : Int) : (busyAt L n t).length = cntAt L t n := by
  simp only [busyAt, h, if_true, busyL_len, busyN_cnt h t n (Nat.le_refl _)]
theorem mostL_cast (L : Nat → Lz) (n k : Nat) : ((mostL L n (k + 1) : Nat) : Int) = max ((mostL L n k : Nat) : Int) ((cntAt L (L k).frm n : Nat) : Int) := by simp only [mostL]; omega

set_option maxHeartbeats 800000 in
theorem implMostLeased_calls (ao : Option Addr) (n cap : Nat) (L : Nat → Lz) (w : World) (h : RdL w ao n cap L) :
    Calls Try.prog 26 #[.slice ao n cap] w fun e w' => e = .returned (.int .i64 (mostLeased L n)) ∧ Below w.heap.size w w' := by
  have hlen := h.len
  have V := implValidLeases_calls ao n cap L w h
  cases hv : vL L n
  · have e1 : mostLeased L n = -1 := by simp [mostLeased, hv]
    rw [e1]
    rw [hv] at V
    clear e1 hv
    go_enter Try.func26, Try.ntmps26
    go_wp2_with (go_at_call 32; refine (V).mono ?_; rintro e w' ⟨rfl, hb⟩)
    go_ret
    exact ⟨rfl, hb⟩
  · have e1 : mostLeased L n = (mostL L n n : Nat) := by simp [mostLeased, hv]
    rw [e1]
    rw [hv] at V
    have HV := Lib.hid hv
    clear e1 hv
    go_enter Try.func26, Try.ntmps26
    go_wp2_with (go_at_call 32; refine (V).mono ?_; rintro e w' ⟨rfl, hb⟩)
    go_loopw [3, 11] (fun q i wr => ∃ k : Nat, k ≤ n ∧ i = .int .i64 k ∧ q = .int .i64 (mostL L n k : Nat) ∧ Below w.heap.size w wr) (fun _ i _ => n - (intOf i).toNat)
    case atStart => exact ⟨0, Nat.zero_le _, rfl, rfl, hb⟩
    case round =>
      obtain ⟨k, hk, rfl, rfl, hB⟩ := hrel
      by_cases hlt : k < n
      · obtain ⟨b, off, rfl, hbb, hc⟩ := h.pos (by omega)
        obtain ⟨q0, q1, q2, q3⟩ := hc k hlt
        have c0 := (hB.cell (p := ⟨b, off + k * 4, none⟩) hbb).trans q0
        have c1 := (hB.cell (p := ⟨b, off + k * 4 + 1, none⟩) hbb).trans q1
        have c2 := (hB.cell (p := ⟨b, off + k * 4 + 2, none⟩) hbb).trans q2
        have c3 := (hB.cell (p := ⟨b, off + k * 4 + 3, none⟩) hbb).trans q3
        have i0 : (k : Int) < (n : Int) := by omega
        have hz := hB.size
        clear hc q0 q1 q2 q3
        have hBA : Below w.heap.size w (wr.alloc (.cells #[.int .i64 ((L k)).conn, .int .i64 ((L k)).owner, .int .i64 ((L k)).frm, .int .i64 ((L k)).til] 29)) := hB.alloc hz _
        have HS := Lib.hid (mostL_cast L n k)
        have HL := Lib.hid (busyAt_len HV.out (L k).frm)
        have hcl := cntAt_le L (L k).frm n
        have hml := mostL_le L n k
        go_wp2_with fail
        refine (implBusyAt_calls _ n cap L (L k).frm _ (h.below hBA)).mono ?_
        rintro e w2 ⟨_, a, c, c', rfl, _, _, _, _, hb2⟩
        rw [HL.out]
        have B2 := hBA.trans (hb2.mono hBA.size)
        go_wp2
        go_roundw
        case rel => exact ⟨k + 1, by omega, by go_num, by rw [HS.out, Int.max_def]; first | rfl | (split <;> split <;> first | rfl | (congr 1; omega)), B2⟩
        case measure => simp [intOf]; omega
      · obtain rfl : k = n := by omega
        go_wp2
        go_ret
        exact ⟨rfl, hB⟩

set_option maxHeartbeats 800000 in
theorem specMostLeased_calls (ao : Option Addr) (n cap : Nat) (L : Nat → Lz) (w : World) (h : RdL w ao n cap L) :
    Calls Try.prog 25 #[.slice ao n cap] w fun e w' => e = .returned (.int .i64 (mostLeased L n)) ∧ Below w.heap.size w w' := by
  have hlen := h.len
  have V := specvalidLeases_calls ao n cap L w h
  cases hv : vL L n
  · have e1 : mostLeased L n = -1 := by simp [mostLeased, hv]
    rw [e1]
    rw [hv] at V
    clear e1 hv
    go_enter Try.func25, Try.ntmps25
    go_wp2_with (go_at_call 43; refine (V).mono ?_; rintro e w' ⟨rfl, hb⟩)
    go_ret
    exact ⟨rfl, hb⟩
  · have e1 : mostLeased L n = (mostL L n n : Nat) := by simp [mostLeased, hv]
    rw [e1]
    rw [hv] at V
    have HV := Lib.hid hv
    clear e1 hv
    go_enter Try.func25, Try.ntmps25
    go_wp2_with (go_at_call 43; refine (V).mono ?_; rintro e w' ⟨rfl, hb⟩)
    go_loopw [3, 4] (fun q i wr => ∃ k : Nat, k ≤ n ∧ i = .int .i64 k ∧ q = .int .i64 (mostL L n k : Nat) ∧ Below w.heap.size w wr) (fun _ i _ => n - (intOf i).toNat)
    case atStart => exact ⟨0, Nat.zero_le _, rfl, rfl, hb⟩
    case round =>
      obtain ⟨k, hk, rfl, rfl, hB⟩ := hrel
      have hml := mostL_le L n k
      by_cases hlt : k < n
      · have i0 : (k : Int) < (n : Int) := by omega
        go_wp2
        go_loopw [5, 6] (fun q i wr => ∃ j : Nat, j ≤ n ∧ i = .int .i64 j ∧ q = .int .i64 (cntAt L (L k).frm j : Nat) ∧ Below w.heap.size w wr) (fun _ i _ => n - (intOf i).toNat)
        case atStart => exact ⟨0, Nat.zero_le _, rfl, rfl, hB⟩
        case round =>
          obtain ⟨j, hj, rfl, rfl, hB⟩ := hrel
          have hcl := cntAt_le L (L k).frm j
          by_cases hjn : j < n
          · obtain ⟨b, off, rfl, hbb, hc⟩ := h.pos (by omega)
            obtain ⟨q0, q1, q2, q3⟩ := hc j hjn
            obtain ⟨_, _, r2, _⟩ := hc k hlt
            have c2 := (hB.cell (p := ⟨b, off + j * 4 + 2, none⟩) hbb).trans q2
            have c3 := (hB.cell (p := ⟨b, off + j * 4 + 3, none⟩) hbb).trans q3
            have d2 := (hB.cell (p := ⟨b, off + k * 4 + 2, none⟩) hbb).trans r2
            have i1 : (j : Int) < (n : Int) := by omega
            have hvj := vL_at HV.out j hjn
            have w1 : IntKind.i64.wrap ((L j).til - 1) = (L j).til - 1 := IntWalk.i64_in _ (by omega)
            clear hc q0 q1 q2 q3 r2
            cases hin : inB (L j).frm ((L j).til - 1) (L k).frm
            · have HS := Lib.hid (show ((cntAt L (L k).frm (j + 1) : Nat) : Int) = (cntAt L (L k).frm j : Nat) by simp only [cntAt, holds_inB, hin]; simp)
              have w2 : IntKind.i64.wrap (((cntAt L (L k).frm j : Nat) : Int) + 0) = ((cntAt L (L k).frm j : Nat) : Int) + 0 := IntWalk.i64_in _ (by omega)
              go_wp2
              go_quiet ((first | (go_at_call 48; exact quiet_left (inRange_calls _ _ _ _)) | (go_at_call 51; exact quiet_left (toInt_calls _ _))))
              go_wp2
              go_roundw
              case rel => exact ⟨j + 1, by omega, by go_num, by rw [HS.out]; try simp, below_drewN hB _⟩
              case measure => simp [intOf]; omega
            · have HS := Lib.hid (show ((cntAt L (L k).frm (j + 1) : Nat) : Int) = (cntAt L (L k).frm j : Nat) + 1 by simp only [cntAt, holds_inB, hin]; simp)
              have w2 : IntKind.i64.wrap (((cntAt L (L k).frm j : Nat) : Int) + 1) = ((cntAt L (L k).frm j : Nat) : Int) + 1 := IntWalk.i64_in _ (by omega)
              go_wp2
              go_quiet ((first | (go_at_call 48; exact quiet_left (inRange_calls _ _ _ _)) | (go_at_call 51; exact quiet_left (toInt_calls _ _))))
              go_wp2
              go_roundw
              case rel => exact ⟨j + 1, by omega, by go_num, by rw [HS.out]; try simp, below_drewN hB _⟩
              case measure => simp [intOf]; omega
          · obtain rfl : j = n := by omega
            have HS := Lib.hid (mostL_cast L j k)
            go_wp2
            go_roundw
            case rel => exact ⟨k + 1, by omega, by go_num, by rw [HS.out, Int.max_def]; first | rfl | (split <;> split <;> first | rfl | (congr 1; omega)), hB⟩
            case measure => simp [intOf]; omega
      · obtain rfl : k = n := by omega
        go_wp2
        go_ret
        exact ⟨rfl, hB⟩
end Go.Proofs.Ythbemokpdcipaaa
