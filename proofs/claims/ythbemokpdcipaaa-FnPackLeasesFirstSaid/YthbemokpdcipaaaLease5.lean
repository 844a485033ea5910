/- MeanLeased of program and reference. -/
import Derived.Test.YthbemokpdcipaaaLease4
namespace Go.Proofs.Ythbemokpdcipaaa
open Go.ChangeShapes Go.WideShapes Go.ChangeAt Go.RowKit
set_option linter.unusedVariables false

theorem val_int {a b : Int} (h : a = b) : Value.int .i64 a = .int .i64 b := by rw [h]
theorem sumL_next (L : Nat → Lz) (u : Int) (k : Nat) : sumL L u (k + 1) = sumL L u k + partL (L k) u := rfl
theorem part_til {x : Lz} {u : Int} (h : x.til ≤ u) (h2 : x.frm + 1 ≤ x.til) : partL x u = x.til - x.frm := by unfold partL; omega
theorem part_u {x : Lz} {u : Int} (h : u < x.til) (h2 : x.frm ≤ u) : partL x u = u - x.frm := by unfold partL; omega
theorem part_none {x : Lz} {u : Int} (h : u < x.til) (h2 : u < x.frm) : partL x u = 0 := by unfold partL; omega
theorem div_pos_eq {a u : Int} (ha : 0 ≤ a) (hu : 1 ≤ u) : a.tdiv u = a / u := Int.tdiv_eq_ediv_of_nonneg ha

set_option maxHeartbeats 800000 in
theorem implMeanLeased_calls (ao : Option Addr) (n cap : Nat) (L : Nat → Lz) (u : Int) (w : World) (h : RdL w ao n cap L) :
    Calls Try.prog 23 #[.slice ao n cap, .int .i64 u] w fun e w' => e = .returned (.int .i64 (meanLeased L n u)) ∧ Below w.heap.size w w' := by
  have hlen := h.len
  have V := implValidLeases_calls ao n cap L w h
  rcases chain2 (vL L n) (inB 1 1000 u) with h1 | ⟨h1, h2⟩ | ⟨h1, h2⟩
  case inr.inr =>
    have e1 : meanLeased L n u = 100 * sumL L u n / u := by simp [meanLeased, h1, h2]
    rw [e1]
    rw [h1] at V
    have hn12 := (vL_facts h1).2
    have HV := Lib.hid h1
    obtain ⟨hu1, hu2⟩ := inB_yes h2
    clear e1 h1
    go_enter Try.func23, Try.ntmps23
    go_wp2_with first | (go_at_call 32; refine (V).mono ?_; rintro e w' ⟨rfl, hb⟩) | (go_at_call 49; refine (isSpan_calls _ _).mono ?_; rintro e w' ⟨rfl, rfl⟩)
    go_loopw [5, 18] (fun q i wr => ∃ k : Nat, k ≤ n ∧ i = .int .i64 k ∧ q = .int .i64 (sumL L u k) ∧ Below w.heap.size w wr) (fun _ i _ => n - (intOf i).toNat)
    case atStart => exact ⟨0, Nat.zero_le _, rfl, rfl, hb⟩
    case round =>
      obtain ⟨k, hk, rfl, rfl, hB⟩ := hrel
      have hsb := sumL_bounds HV.out u k hk
      by_cases hlt : k < n
      · obtain ⟨b, off, rfl, hbb, hc⟩ := h.pos (by omega)
        obtain ⟨q0, q1, q2, q3⟩ := hc k hlt
        have c0 := (hB.cell (p := ⟨b, off + k * 4, none⟩) hbb).trans q0
        have c1 := (hB.cell (p := ⟨b, off + k * 4 + 1, none⟩) hbb).trans q1
        have c2 := (hB.cell (p := ⟨b, off + k * 4 + 2, none⟩) hbb).trans q2
        have c3 := (hB.cell (p := ⟨b, off + k * 4 + 3, none⟩) hbb).trans q3
        have i0 : (k : Int) < (n : Int) := by omega
        have hz := hB.size
        have hvk := vL_at HV.out k hlt
        have HS := Lib.hid (sumL_next L u k)
        have HP := Lib.hid (show partL (L k) u = max 0 (min (L k).til u - (L k).frm) from rfl)
        clear hc q0 q1 q2 q3
        have hBA : Below w.heap.size w (wr.alloc (.cells #[.int .i64 ((L k)).conn, .int .i64 ((L k)).owner, .int .i64 ((L k)).frm, .int .i64 ((L k)).til] 29)) := hB.alloc hz _
        have w1 : IntKind.i64.wrap ((L k).til - (L k).frm) = (L k).til - (L k).frm := IntWalk.i64_in _ (by omega)
        have w2 : IntKind.i64.wrap (u - (L k).frm) = u - (L k).frm := IntWalk.i64_in _ (by omega)
        go_wp2
        all_goals
          go_roundw
          case rel => exact ⟨k + 1, by omega, by go_num, val_int (by rw [HS.out, HP.out]; omega), hBA⟩
          case measure => simp [intOf]; omega
      · obtain rfl : k = n := by omega
        have w1 : IntKind.i64.wrap (100 * sumL L u k) = 100 * sumL L u k := IntWalk.i64_in _ (by omega)
        have HD := Lib.hid (div_pos_eq (a := 100 * sumL L u k) (u := u) (by omega) hu1)
        go_wp2
        go_ret
        exact ⟨ret_int (by first | rfl | rw [HD.out]), hB⟩
  all_goals
    have e1 : meanLeased L n u = -1 := by simp [meanLeased, *]
    rw [e1]
    rw [h1] at V
    clear e1
    go_enter Try.func23, Try.ntmps23
    go_wp2_with first | (go_at_call 32; refine (V).mono ?_; rintro e w' ⟨rfl, hb⟩) | (go_at_call 49; refine (isSpan_calls _ _).mono ?_; rintro e w' ⟨rfl, rfl⟩)
    go_ret
    exact ⟨rfl, hb⟩

set_option maxHeartbeats 800000 in
theorem specMeanLeased_calls (ao : Option Addr) (n cap : Nat) (L : Nat → Lz) (u : Int) (w : World) (h : RdL w ao n cap L) :
    Calls Try.prog 22 #[.slice ao n cap, .int .i64 u] w fun e w' => e = .returned (.int .i64 (meanLeased L n u)) ∧ Below w.heap.size w w' := by
  have hlen := h.len
  have V := specvalidLeases_calls ao n cap L w h
  rcases chain2 (vL L n) (inB 1 1000 u) with h1 | ⟨h1, h2⟩ | ⟨h1, h2⟩
  case inr.inr =>
    have e1 : meanLeased L n u = 100 * sumL L u n / u := by simp [meanLeased, h1, h2]
    rw [e1]
    rw [h1] at V
    have hn12 := (vL_facts h1).2
    have HV := Lib.hid h1
    obtain ⟨hu1, hu2⟩ := inB_yes h2
    clear e1 h1
    go_enter Try.func22, Try.ntmps22
    go_wp2_with first | (go_at_call 43; refine (V).mono ?_; rintro e w' ⟨rfl, hb⟩) | (go_at_call 48; refine (inRange_calls _ _ _ _).mono ?_; rintro e w' ⟨rfl, rfl⟩)
    go_loopw [5, 6] (fun q i wr => ∃ k : Nat, k ≤ n ∧ i = .int .i64 k ∧ q = .int .i64 (sumL L u k) ∧ Below w.heap.size w wr) (fun _ i _ => n - (intOf i).toNat)
    case atStart => exact ⟨0, Nat.zero_le _, rfl, rfl, hb⟩
    case round =>
      obtain ⟨k, hk, rfl, rfl, hB⟩ := hrel
      have hsb := sumL_bounds HV.out u k hk
      by_cases hlt : k < n
      · obtain ⟨b, off, rfl, hbb, hc⟩ := h.pos (by omega)
        obtain ⟨q0, q1, q2, q3⟩ := hc k hlt
        have c2 := (hB.cell (p := ⟨b, off + k * 4 + 2, none⟩) hbb).trans q2
        have c3 := (hB.cell (p := ⟨b, off + k * 4 + 3, none⟩) hbb).trans q3
        have i0 : (k : Int) < (n : Int) := by omega
        have hz := hB.size
        have hvk := vL_at HV.out k hlt
        have HS := Lib.hid (sumL_next L u k)
        have HP := Lib.hid (show partL (L k) u = max 0 (min (L k).til u - (L k).frm) from rfl)
        clear hc q0 q1 q2 q3
        have w1 : IntKind.i64.wrap (min (L k).til u - (L k).frm) = min (L k).til u - (L k).frm := IntWalk.i64_in _ (by omega)
        have w2 : IntKind.i64.wrap (sumL L u k + max 0 (min (L k).til u - (L k).frm)) = sumL L u k + max 0 (min (L k).til u - (L k).frm) := IntWalk.i64_in _ (by omega)
        go_wp2
        go_quiet (fail)
        go_wp2
        go_roundw
        case rel => exact ⟨k + 1, by omega, by go_num, val_int (by rw [HS.out, HP.out]; omega), below_drewN hB _⟩
        case measure => simp [intOf]; omega
      · obtain rfl : k = n := by omega
        have w1 : IntKind.i64.wrap (100 * sumL L u k) = 100 * sumL L u k := IntWalk.i64_in _ (by omega)
        have HD := Lib.hid (div_pos_eq (a := 100 * sumL L u k) (u := u) (by omega) hu1)
        go_wp2
        go_ret
        exact ⟨ret_int (by first | rfl | rw [HD.out]), hB⟩
  all_goals
    have e1 : meanLeased L n u = -1 := by simp [meanLeased, *]
    rw [e1]
    rw [h1] at V
    clear e1
    go_enter Try.func22, Try.ntmps22
    go_wp2_with first | (go_at_call 43; refine (V).mono ?_; rintro e w' ⟨rfl, hb⟩) | (go_at_call 48; refine (inRange_calls _ _ _ _).mono ?_; rintro e w' ⟨rfl, rfl⟩)
    go_ret
    exact ⟨rfl, hb⟩
end Go.Proofs.Ythbemokpdcipaaa
