/- ValidWishes of program and reference. -/
import Derived.Test.YtmabhoglnapgdaaWishPlain
import Derived.Test.YtmabhoglnapgdaaSlice
import Derived.Deep.QuietTactic
import Derived.BigQuiet
namespace Go.Proofs.Ytmabhoglnapgdaa
open Go.ChangeShapes Go.WideShapes Go.ChangeAt Go.RowKit
set_option linter.unusedVariables false

theorem quiet_left {P : Program} {f : FuncId} {args : Array Value} {w : World} {n : Nat} {v : Value}
    (h : Calls P f args (w.drewN n) fun e w' => e = .returned v ∧ w.drewN n = w') : Calls P f args (w.drewN n) fun e w'' => e = .returned v ∧ ∃ m, w'' = w.drewN m :=
  h.mono fun _ _ ⟨he, hm⟩ => ⟨he, n, hm.symm⟩

def wcell (x : Wi) (j : Nat) : Value := match j with | 0 => .int .i64 x.at_ | 1 => .int .i64 x.hold | _ => .int .i64 x.pat
/-- A slice of wishes. -/
def RdW (w : World) (ao : Option Addr) (n cap : Nat) (L : Nat → Wi) : Prop := Rd w 3 ao n cap (fun i j => wcell (L i) j)
theorem RdW.below {w w' : World} {ao : Option Addr} {n cap : Nat} {L : Nat → Wi} (h : RdW w ao n cap L) (hb : Below w.heap.size w w') : RdW w' ao n cap L := Rd.below h hb
theorem RdW.len {w : World} {ao : Option Addr} {n cap : Nat} {L : Nat → Wi} (h : RdW w ao n cap L) : n ≤ 9223372036854775807 := Rd.len h
theorem RdW.pos {w : World} {ao : Option Addr} {n cap : Nat} {L : Nat → Wi} (h : RdW w ao n cap L) (hn : 0 < n) : ∃ b off, ao = some ⟨b, off, none⟩ ∧ b < w.heap.size ∧ ∀ i, i < n → w.cell? ⟨b, off + i * 3, none⟩ = some (.int .i64 (L i).at_) ∧ w.cell? ⟨b, off + i * 3 + 1, none⟩ = some (.int .i64 (L i).hold) ∧ w.cell? ⟨b, off + i * 3 + 2, none⟩ = some (.int .i64 (L i).pat) := by
  obtain ⟨b, off, h1, h2, h3⟩ := Rd.pos h hn
  exact ⟨b, off, h1, h2, fun i hi => ⟨h3 i hi 0 (by omega), h3 i hi 1 (by omega), h3 i hi 2 (by omega)⟩⟩

theorem okW_step {L : Nat → Wi} {k : Nat} (h : okW L k = true) (a b c : Bool) (h1 : inB (lastA L k) 1000 (L k).at_ = a) (h2 : inB 1 100 (L k).hold = b) (h3 : inB 0 100 (L k).pat = c) : okW L (k + 1) = (a && b && c) := by
  simp [okW, h, h1, h2, h3]
theorem vW_no {L : Nat → Wi} {n k : Nat} (hk : k < n) (h : okW L (k + 1) = false) : vW L n = false := by
  cases hv : vW L n
  · rfl
  · simp only [vW, Bool.and_eq_true] at hv
    rw [okW_le hv.1 (k + 1) (by omega)] at h
    simp at h

theorem implValidWishes_calls (ao : Option Addr) (n cap : Nat) (L : Nat → Wi) (w : World) (h : RdW w ao n cap L) :
    Calls Try.prog 21 #[.slice ao n cap] w fun e w' => e = .returned (.bool (vW L n)) ∧ Below w.heap.size w w' := by
  have hlen := h.len
  go_enter Try.func21, Try.ntmps21
  go_wp2
  go_loopw [3, 8] (fun l i wr => ∃ k : Nat, k ≤ n ∧ i = .int .i64 k ∧ l = .int .i64 (lastA L k) ∧ okW L k = true ∧ Below w.heap.size w wr)
    (fun _ i _ => n - (intOf i).toNat)
  case atStart => exact ⟨0, Nat.zero_le _, rfl, rfl, rfl, Below.refl _ _⟩
  case round =>
    obtain ⟨k, hk, rfl, rfl, hok, hB⟩ := hrel
    have HK := Lib.hid hok
    clear hok
    have hz := hB.size
    by_cases hlt : k < n
    · obtain ⟨b, off, rfl, hb, hc⟩ := h.pos (by omega)
      obtain ⟨g0, g1, g2⟩ := hc k hlt
      have c0 := (hB.cell (p := ⟨b, off + k * 3, none⟩) hb).trans g0
      have c1 := (hB.cell (p := ⟨b, off + k * 3 + 1, none⟩) hb).trans g1
      have c2 := (hB.cell (p := ⟨b, off + k * 3 + 2, none⟩) hb).trans g2
      clear hc g0 g1 g2
      generalize hlast : lastA L k = la
      have HL := Lib.hid hlast
      clear hlast
      rcases chain3 (inB la 1000 (L k).at_) (inB 1 100 (L k).hold) (inB 0 100 (L k).pat) with h1 | ⟨h1, h2⟩ | ⟨h1, h2, h3⟩ | ⟨h1, h2, h3⟩
      case inr.inr.inr =>
        have hs := Lib.hid (okW_step HK.out true true true (by rw [HL.out]; exact h1) h2 h3)
        go_wp2_with (go_at_call 45; refine (in_calls _ _ _ _).mono ?_; rintro e w' ⟨rfl, rfl⟩)
        go_roundw
        case rel => exact ⟨k + 1, by omega, by go_num, rfl, hs.out, by go_grown⟩
        case measure => simp [intOf]; omega
      all_goals
        have hno : vW L n = false := vW_no hlt (by rw [okW]; simp [HK.out, HL.out, *])
        go_wp2_with (go_at_call 45; refine (in_calls _ _ _ _).mono ?_; rintro e w' ⟨rfl, rfl⟩)
        go_ret
        exact ⟨ret_bool hno.symm, by go_grown⟩
    · obtain rfl : k = n := by omega
      have e : vW L k = decide (k ≤ 12) := by simp [vW, HK.out]
      go_wp2
      go_ret
      exact ⟨ret_bool (by rw [e]; simp; omega), by go_grown⟩

theorem inB_at {L : Nat → Wi} {k : Nat} (h : okW L k = true) : inB (lastA L k) 1000 (L k).at_ = (inB 0 1000 (L k).at_ && (decide (k = 0) || decide (lastA L k ≤ (L k).at_))) := by
  have h0 := lastA_nonneg h k (Nat.le_refl _)
  cases k with
  | zero => simp [lastA]
  | succ k =>
    rw [Bool.eq_iff_iff]
    simp [inB]
    omega

theorem specvalidWishes_calls (ao : Option Addr) (n cap : Nat) (L : Nat → Wi) (w : World) (h : RdW w ao n cap L) :
    Calls Try.prog 46 #[.slice ao n cap] w fun e w' => e = .returned (.bool (vW L n)) ∧ Below w.heap.size w w' := by
  have hlen := h.len
  go_enter Try.func46, Try.ntmps46
  go_wp2
  go_loopw [3] (fun i wr => ∃ k : Nat, k ≤ n ∧ i = .int .i64 k ∧ okW L k = true ∧ Below w.heap.size w wr)
    (fun i _ => n - (intOf i).toNat)
  case atStart => exact ⟨0, Nat.zero_le _, rfl, rfl, Below.refl _ _⟩
  case round =>
    obtain ⟨k, hk, rfl, hok, hB⟩ := hrel
    have HK := Lib.hid hok
    clear hok
    have hz := hB.size
    by_cases hlt : k < n
    · obtain ⟨b, off, rfl, hb, hc⟩ := h.pos (by omega)
      obtain ⟨g0, g1, g2⟩ := hc k hlt
      have c0 := (hB.cell (p := ⟨b, off + k * 3, none⟩) hb).trans g0
      have c1 := (hB.cell (p := ⟨b, off + k * 3 + 1, none⟩) hb).trans g1
      have c2 := (hB.cell (p := ⟨b, off + k * 3 + 2, none⟩) hb).trans g2
      have i0 : (k : Int) < (n : Int) := by omega
      clear g0 g1 g2
      have HAt := Lib.hid (inB_at HK.out)
      rcases chain3 (inB 0 1000 (L k).at_) (inB 1 100 (L k).hold) (inB 0 100 (L k).pat) with h1 | ⟨h1, h2⟩ | ⟨h1, h2, h3⟩ | ⟨h1, h2, h3⟩
      case inr.inr.inr =>
        by_cases hk0 : k = 0
        · subst hk0
          clear hc
          have hs := Lib.hid (okW_step HK.out true true true (by rw [HAt.out]; simp [h1]) h2 h3)
          simp only [Nat.zero_mul, Nat.add_zero] at c0 c1 c2
          go_wp2
          go_quiet ((go_at_call 51; exact quiet_left (inRange_calls _ _ _ _)))
          go_wp2
          go_roundw
          case rel => exact ⟨1, by omega, rfl, hs.out, below_drewN hB _⟩
          case measure => simp [intOf]; omega
        · obtain ⟨p0, _, _⟩ := hc (k - 1) (by omega)
          have cp := (hB.cell (p := ⟨b, off + (k - 1) * 3, none⟩) hb).trans p0
          clear hc p0
          have d0 : decide (0 < k) = true := by simp; omega
          have i1 : 0 ≤ (k : Int) - 1 := by omega
          have i2 : (k : Int) - 1 < (n : Int) := by omega
          have hla : lastA L k = (L (k - 1)).at_ := by cases k with
            | zero => omega
            | succ k => rfl
          cases d1 : decide ((L k).at_ < (L (k - 1)).at_)
          · have d1' : (L (k - 1)).at_ ≤ (L k).at_ := by simpa using d1
            have hs := Lib.hid (okW_step HK.out true true true (by rw [HAt.out, hla]; simp [h1, d1']) h2 h3)
            clear hla
            go_wp2
            go_quiet ((go_at_call 51; exact quiet_left (inRange_calls _ _ _ _)))
            go_wp2
            go_roundw
            case rel => exact ⟨k + 1, by omega, by go_num, hs.out, below_drewN hB _⟩
            case measure => simp [intOf]; omega
          · have d1' : ¬ (L (k - 1)).at_ ≤ (L k).at_ := by simp at d1; omega
            have hno : vW L n = false := vW_no hlt (by rw [okW, HAt.out, hla]; simp [d1', hk0])
            clear hla d1'
            go_wp2
            go_quiet ((go_at_call 51; exact quiet_left (inRange_calls _ _ _ _)))
            go_wp2
            go_ret
            exact ⟨ret_bool hno.symm, below_drewN hB _⟩
      all_goals
        have hno : vW L n = false := vW_no hlt (by rw [okW, HAt.out]; simp [*])
        clear hc
        go_wp2
        go_quiet ((go_at_call 51; exact quiet_left (inRange_calls _ _ _ _)))
        go_wp2
        go_ret
        exact ⟨ret_bool hno.symm, below_drewN hB _⟩
    · obtain rfl : k = n := by omega
      have e : vW L k = decide (k ≤ 12) := by simp [vW, HK.out]
      go_wp2
      go_ret
      exact ⟨ret_bool (by rw [e]; simp; omega), by go_grown⟩
end Go.Proofs.Ytmabhoglnapgdaa
