/- NextEnd of program and reference: each computes a plain function. -/
import Derived.Test.YtmkpdcikpjpeaaaAge
namespace Go.Proofs.Ytmkpdcikpjpeaaa
open Go.ChangeShapes Go.WideShapes Go.ChangeAt Go.RowKit
set_option linter.unusedVariables false

theorem argsA_yes {L : Nat → Ag} {n : Nat} {life rest : Int} (h : argsA L n life rest = true) : vA L n = true ∧ 1 ≤ life ∧ life ≤ 1000 ∧ 1 ≤ rest ∧ rest ≤ 1000 := by
  simp only [argsA, Bool.and_eq_true] at h
  have a := inB_yes h.1.2
  have b := inB_yes h.2
  exact ⟨h.1.1, a.1, a.2, b.1, b.2⟩
theorem nextL_bounds {L : Nat → Ag} {n : Nat} {life rest : Int} (h : argsA L n life rest = true) (k : Nat) (hk : k ≤ n) : -1 ≤ nextL L life rest k ∧ nextL L life rest k ≤ 2000 := by
  rcases nextL_facts h k hk with ⟨_, h2⟩ | ⟨_, h2, _, j, h4, h5⟩
  · omega
  · have := endA_facts h j (by omega); omega
theorem next_cases {L : Nat → Ag} {life rest : Int} (k : Nat) :
    (nextL L life rest k < 0 ∧ nextL L life rest (k + 1) = endA (L k) k life rest) ∨
    (¬ nextL L life rest k < 0 ∧ endA (L k) k life rest < nextL L life rest k ∧ nextL L life rest (k + 1) = endA (L k) k life rest) ∨
    (¬ nextL L life rest k < 0 ∧ ¬ endA (L k) k life rest < nextL L life rest k ∧ nextL L life rest (k + 1) = nextL L life rest k) := by
  by_cases h1 : nextL L life rest k < 0
  · left; exact ⟨h1, by rw [nextL, if_pos (.inl h1)]⟩
  · right
    by_cases h2 : endA (L k) k life rest < nextL L life rest k
    · left; exact ⟨h1, h2, by rw [nextL, if_pos (.inr h2)]⟩
    · right; exact ⟨h1, h2, by rw [nextL, if_neg (by omega)]⟩

set_option maxHeartbeats 400000 in
theorem implNextEnd_calls (ao : Option Addr) (n cap : Nat) (L : Nat → Ag) (life rest : Int) (w : World) (h : RdA w ao n cap L) :
    Calls Try.prog 24 #[.slice ao n cap, .int .i64 life, .int .i64 rest] w fun e w' => e = .returned (.int .i64 (nextEnd L n life rest)) ∧ Below w.heap.size w w' := by
  have hlen := h.len
  have V := implValidAges_calls ao n cap L w h
  rcases chain3 (vA L n) (inB 1 1000 life) (inB 1 1000 rest) with h1 | ⟨h1, h2⟩ | ⟨h1, h2, h3⟩ | ⟨h1, h2, h3⟩
  case inr.inr.inr =>
    have hargs : argsA L n life rest = true := by simp [argsA, h1, h2, h3]
    have e1 : nextEnd L n life rest = nextL L life rest n := by simp [nextEnd, hargs]
    rw [e1]
    rw [h1] at V
    have HA := Lib.hid hargs
    obtain ⟨_, hl1, hl2, hr1, hr2⟩ := argsA_yes hargs
    have hvf := vA_facts h1
    have hn6 := hvf.1
    have HV := Lib.hid hvf.2
    clear e1 h1 hargs hvf
    go_enter Try.func24, Try.ntmps24
    go_wp2_with first | (go_at_call 18; refine (V).mono ?_; rintro e w' ⟨rfl, hb⟩) | (go_at_call 52; refine (isSpan_calls _ _).mono ?_; rintro e w' ⟨rfl, rfl⟩)
    go_loopw [7, 26] (fun t i wr => ∃ k : Nat, k ≤ n ∧ i = .int .i64 k ∧ t = .int .i64 (nextL L life rest k) ∧ Below w.heap.size w wr) (fun _ i _ => n - (intOf i).toNat)
    case atStart => exact ⟨0, Nat.zero_le _, rfl, rfl, hb⟩
    case round =>
      obtain ⟨k, hk, rfl, rfl, hB⟩ := hrel
      by_cases hlt : k < n
      · obtain ⟨b, off, rfl, hbb, hc⟩ := h.pos (by omega)
        obtain ⟨q0, q1⟩ := hc k hlt
        have c0 := (hB.cell (p := ⟨b, off + k * 2, none⟩) hbb).trans q0
        have c1 := (hB.cell (p := ⟨b, off + k * 2 + 1, none⟩) hbb).trans q1
        have i0 : (k : Int) < (n : Int) := by omega
        have hv := HV.out k hlt
        have hef := endA_facts HA.out k hlt
        have hnb := nextL_bounds HA.out k (by omega)
        have hz := hB.size
        clear hc q0 q1
        rcases next_cases (L := L) (life := life) (rest := rest) k with ⟨g1, g2⟩ | ⟨g1, g2, g3⟩ | ⟨g1, g2, g3⟩
        · have HS := Lib.hid g2
          clear g2
          go_wp2_with fail
          refine (end_calls (L k) k life rest _ (by omega) hl1 hl2 hr1 hr2 (by omega) (by omega) (by omega) (by omega)).mono ?_
          rintro e w2 ⟨rfl, hb2⟩
          have B2 : Below w.heap.size w w2 := Below.trans (by go_grown) (hb2.mono (by simp; omega))
          go_wp2
          go_roundw
          case rel => exact ⟨k + 1, by omega, by go_num, by rw [HS.out], B2⟩
          case measure => simp [intOf]; omega
        · have HS := Lib.hid g3
          clear g3
          go_wp2_with fail
          refine (end_calls (L k) k life rest _ (by omega) hl1 hl2 hr1 hr2 (by omega) (by omega) (by omega) (by omega)).mono ?_
          rintro e w2 ⟨rfl, hb2⟩
          have B2 : Below w.heap.size w w2 := Below.trans (by go_grown) (hb2.mono (by simp; omega))
          go_wp2
          go_roundw
          case rel => exact ⟨k + 1, by omega, by go_num, by rw [HS.out], B2⟩
          case measure => simp [intOf]; omega
        · have HS := Lib.hid g3
          clear g3
          go_wp2_with fail
          refine (end_calls (L k) k life rest _ (by omega) hl1 hl2 hr1 hr2 (by omega) (by omega) (by omega) (by omega)).mono ?_
          rintro e w2 ⟨rfl, hb2⟩
          have B2 : Below w.heap.size w w2 := Below.trans (by go_grown) (hb2.mono (by simp; omega))
          go_wp2
          go_roundw
          case rel => exact ⟨k + 1, by omega, by go_num, by rw [HS.out], B2⟩
          case measure => simp [intOf]; omega
      · obtain rfl : k = n := by omega
        go_wp2
        go_ret
        exact ⟨rfl, hB⟩
  all_goals
    have e1 : nextEnd L n life rest = -1 := nextEnd_bad (by simp [argsA, *])
    rw [e1]
    rw [h1] at V
    clear e1
    go_enter Try.func24, Try.ntmps24
    go_wp2_with first | (go_at_call 18; refine (V).mono ?_; rintro e w' ⟨rfl, hb⟩) | (go_at_call 52; refine (isSpan_calls _ _).mono ?_; rintro e w' ⟨rfl, rfl⟩)
    go_ret
    exact ⟨rfl, hb⟩

set_option maxHeartbeats 400000 in
theorem specNextEnd_calls (ao : Option Addr) (n cap : Nat) (L : Nat → Ag) (life rest : Int) (w : World) (h : RdA w ao n cap L) :
    Calls Try.prog 23 #[.slice ao n cap, .int .i64 life, .int .i64 rest] w fun e w' => e = .returned (.int .i64 (nextEnd L n life rest)) ∧ Below w.heap.size w w' := by
  have hlen := h.len
  have V := specvalidAges_calls ao n cap L w h
  rcases chain3 (vA L n) (inB 1 1000 life) (inB 1 1000 rest) with h1 | ⟨h1, h2⟩ | ⟨h1, h2, h3⟩ | ⟨h1, h2, h3⟩
  case inr.inr.inr =>
    have hargs : argsA L n life rest = true := by simp [argsA, h1, h2, h3]
    have e1 : nextEnd L n life rest = nextL L life rest n := by simp [nextEnd, hargs]
    rw [e1]
    rw [h1] at V
    have HA := Lib.hid hargs
    obtain ⟨_, hl1, hl2, hr1, hr2⟩ := argsA_yes hargs
    have hvf := vA_facts h1
    have hn6 := hvf.1
    have HV := Lib.hid hvf.2
    clear e1 h1 hargs hvf
    go_enter Try.func23, Try.ntmps23
    go_wp2_with first | (go_at_call 47; refine (V).mono ?_; rintro e w' ⟨rfl, hb⟩) | (go_at_call 50; refine (inRange_calls _ _ _ _).mono ?_; rintro e w' ⟨rfl, rfl⟩)
    go_loopw [7, 8] (fun t i wr => ∃ k : Nat, k ≤ n ∧ i = .int .i64 k ∧ t = .int .i64 (nextL L life rest k) ∧ Below w.heap.size w wr) (fun _ i _ => n - (intOf i).toNat)
    case atStart => exact ⟨0, Nat.zero_le _, rfl, rfl, hb⟩
    case round =>
      obtain ⟨k, hk, rfl, rfl, hB⟩ := hrel
      by_cases hlt : k < n
      · obtain ⟨b, off, rfl, hbb, hc⟩ := h.pos (by omega)
        obtain ⟨q0, q1⟩ := hc k hlt
        have c0 := (hB.cell (p := ⟨b, off + k * 2, none⟩) hbb).trans q0
        have c1 := (hB.cell (p := ⟨b, off + k * 2 + 1, none⟩) hbb).trans q1
        have i0 : (k : Int) < (n : Int) := by omega
        have hv := HV.out k hlt
        have hnb := nextL_bounds HA.out k (by omega)
        have hlf := lifeOf_facts (c := k) (life := life) (by omega) hl1 hl2
        have w1 : IntKind.i64.wrap ((L k).born + lifeOf k life) = (L k).born + lifeOf k life := IntWalk.i64_in _ (by omega)
        have w2 : IntKind.i64.wrap ((L k).used + rest) = (L k).used + rest := IntWalk.i64_in _ (by omega)
        have HM := Lib.hid (show endA (L k) k life rest = min ((L k).born + lifeOf k life) ((L k).used + rest) from rfl)
        have HN := Lib.hid (next_cases (L := L) (life := life) (rest := rest) k)
        clear hc q0 q1
        generalize nextL L life rest k = nx at *
        generalize hnx' : nextL L life rest (k + 1) = nx' at *
        have HX := Lib.hid hnx'
        clear hnx'
        generalize endA (L k) k life rest = en at *
        by_cases hmin : (L k).born + lifeOf k life ≤ (L k).used + rest
        · have hen : en = (L k).born + lifeOf k life := by have := HM.out; omega
          have HE := Lib.hid hen
          clear hen
          by_cases g1 : nx < 0
          · go_wp2
            go_quiet ((go_at_call 51; exact quiet_left (speclifeOf_calls k life _ (by omega) hl1 hl2)))
            go_wp2
            all_goals
              first
              | (exfalso; omega)
              | (go_roundw
                 case rel => exact ⟨k + 1, by omega, by go_num, by rw [HX.out]; have a := HN.out; have b := HE.out; congr 1; omega, below_drewN hB _⟩
                 case measure => simp [intOf]; omega)
          · by_cases g2 : (L k).born + lifeOf k life < nx
            · go_wp2
              go_quiet ((go_at_call 51; exact quiet_left (speclifeOf_calls k life _ (by omega) hl1 hl2)))
              go_wp2
              all_goals
                first
                | (exfalso; omega)
                | (go_roundw
                   case rel => exact ⟨k + 1, by omega, by go_num, by rw [HX.out]; have a := HN.out; have b := HE.out; congr 1; omega, below_drewN hB _⟩
                   case measure => simp [intOf]; omega)
            · go_wp2
              go_quiet ((go_at_call 51; exact quiet_left (speclifeOf_calls k life _ (by omega) hl1 hl2)))
              go_wp2
              all_goals
                first
                | (exfalso; omega)
                | (go_roundw
                   case rel => exact ⟨k + 1, by omega, by go_num, by rw [HX.out]; have a := HN.out; have b := HE.out; congr 1; omega, below_drewN hB _⟩
                   case measure => simp [intOf]; omega)
        · have hen : en = (L k).used + rest := by have := HM.out; omega
          have HE := Lib.hid hen
          clear hen
          by_cases g1 : nx < 0
          · go_wp2
            go_quiet ((go_at_call 51; exact quiet_left (speclifeOf_calls k life _ (by omega) hl1 hl2)))
            go_wp2
            all_goals
              first
              | (exfalso; omega)
              | (go_roundw
                 case rel => exact ⟨k + 1, by omega, by go_num, by rw [HX.out]; have a := HN.out; have b := HE.out; congr 1; omega, below_drewN hB _⟩
                 case measure => simp [intOf]; omega)
          · by_cases g2 : (L k).used + rest < nx
            · go_wp2
              go_quiet ((go_at_call 51; exact quiet_left (speclifeOf_calls k life _ (by omega) hl1 hl2)))
              go_wp2
              all_goals
                first
                | (exfalso; omega)
                | (go_roundw
                   case rel => exact ⟨k + 1, by omega, by go_num, by rw [HX.out]; have a := HN.out; have b := HE.out; congr 1; omega, below_drewN hB _⟩
                   case measure => simp [intOf]; omega)
            · go_wp2
              go_quiet ((go_at_call 51; exact quiet_left (speclifeOf_calls k life _ (by omega) hl1 hl2)))
              go_wp2
              all_goals
                first
                | (exfalso; omega)
                | (go_roundw
                   case rel => exact ⟨k + 1, by omega, by go_num, by rw [HX.out]; have a := HN.out; have b := HE.out; congr 1; omega, below_drewN hB _⟩
                   case measure => simp [intOf]; omega)
      · obtain rfl : k = n := by omega
        go_wp2
        go_ret
        exact ⟨rfl, hB⟩
  all_goals
    have e1 : nextEnd L n life rest = -1 := nextEnd_bad (by simp [argsA, *])
    rw [e1]
    rw [h1] at V
    clear e1
    go_enter Try.func23, Try.ntmps23
    go_wp2_with first | (go_at_call 47; refine (V).mono ?_; rintro e w' ⟨rfl, hb⟩) | (go_at_call 50; refine (inRange_calls _ _ _ _).mono ?_; rintro e w' ⟨rfl, rfl⟩)
    go_ret
    exact ⟨rfl, hb⟩
end Go.Proofs.Ytmkpdcikpjpeaaa
