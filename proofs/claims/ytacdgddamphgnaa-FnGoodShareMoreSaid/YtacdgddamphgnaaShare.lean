/- GoodShare of program and reference: each computes goodShare. -/
import Derived.Test.YtacdgddamphgnaaBools
import Derived.Test.YtacdgddamphgnaaPure
namespace Go.Proofs.Ytacdgddamphgnaa
open Go.ChangeShapes Go.WideShapes Go.ChangeAt Go.RowKit
set_option linter.unusedVariables false

/-- How many of the first k are true. -/
def cntB (L : Nat → Bool) : Nat → Nat
  | 0 => 0
  | k + 1 => cntB L k + if L k then 1 else 0
theorem cntB_le (L : Nat → Bool) (k : Nat) : cntB L k ≤ k := by
  induction k with
  | zero => simp [cntB]
  | succ k ih => simp only [cntB]; split <;> omega
theorem cntB_congr (L M : Nat → Bool) : ∀ k, (∀ i, i < k → L i = M i) → cntB L k = cntB M k := by
  intro k
  induction k with
  | zero => intro _; rfl
  | succ k ih => intro h; simp only [cntB]; rw [ih (fun i hi => h i (by omega)), h k (by omega)]
theorem cntB_yes (L : Nat → Bool) (k : Nat) (h : L k = true) : cntB L (k + 1) = cntB L k + 1 := by simp [cntB, h]
theorem cntB_no (L : Nat → Bool) (k : Nat) (h : L k = false) : cntB L (k + 1) = cntB L k := by simp [cntB, h]
def goodShare (n : Nat) (L : Nat → Bool) : Int := if 12 < n then -1 else if n = 0 then 100 else 100 * (cntB L n : Int) / (n : Int)

theorem implGoodShare_calls (ao : Option Addr) (n cap : Nat) (L : Nat → Bool) (w : World) (h : RdB w ao n cap L) :
    Calls Try.prog 14 #[.slice ao n cap] w fun e w' => e = .returned (.int .i64 (goodShare n L)) ∧ w = w' := by
  have hlen := h.len
  by_cases h12 : 12 < n
  · go_enter Try.func14, Try.ntmps14
    go_wp2
    go_ret
    exact ⟨ret_int (by simp [goodShare, h12]), rfl⟩
  · by_cases h0 : n = 0
    · subst h0
      go_enter Try.func14, Try.ntmps14
      go_wp2
      go_ret
      exact ⟨ret_int (by simp [goodShare]), rfl⟩
    · have hz : ((n : Int) == 0) = false := by simp; omega
      obtain ⟨b, off, rfl, hb, hc⟩ := h.pos (by omega)
      clear h
      go_enter Try.func14, Try.ntmps14
      go_wp2
      go_loop [3, 16] (fun t i => ∃ k : Nat, k ≤ n ∧ i = .int .i64 k ∧ t = .int .i64 (cntB L k)) (fun _ i => n - (intOf i).toNat)
      case atStart => exact ⟨0, Nat.zero_le _, rfl, rfl⟩
      case round =>
        obtain ⟨k, hk, rfl, rfl⟩ := hrel
        have hcl := cntB_le L k
        by_cases hlt : k < n
        · have hck := hc k hlt
          clear hc
          cases hL : L k
          · have e := cntB_no L k hL
            have E := Lib.hid e
            clear e
            go_wp2
            go_round
            case rel => exact ⟨k + 1, by omega, by go_num, by rw [E.out]⟩
            case measure => simp [intOf]; omega
          · have e := cntB_yes L k hL
            have E := Lib.hid e
            clear e
            go_wp2
            go_round
            case rel => exact ⟨k + 1, by omega, by go_num, by rw [E.out]; try go_num⟩
            case measure => simp [intOf]; omega
        · obtain rfl : k = n := by omega
          clear hc
          go_wp2
          go_ret
          exact ⟨ret_int (by simp [goodShare, h12, h0]), rfl⟩

theorem toInt_calls (b : Bool) (w : World) :
    Calls Try.prog 22 #[.bool b] w fun e w' => e = .returned (.int .i64 (if b then 1 else 0)) ∧ w = w' := by
  cases b
  all_goals
    go_enter Try.func22, Try.ntmps22
    go_wp2
    go_ret
    exact ⟨rfl, rfl⟩

theorem specGoodShare_calls (ao : Option Addr) (n cap : Nat) (L : Nat → Bool) (w : World) (h : RdB w ao n cap L) :
    Calls Try.prog 12 #[.slice ao n cap] w fun e w' => e = .returned (.int .i64 (goodShare n L)) ∧ w = w' := by
  have hlen := h.len
  by_cases h12 : 12 < n
  · go_enter Try.func12, Try.ntmps12
    go_wp2
    go_ret
    exact ⟨ret_int (by simp [goodShare, h12]), rfl⟩
  · by_cases h0 : n = 0
    · subst h0
      go_enter Try.func12, Try.ntmps12
      go_wp2
      go_ret
      exact ⟨ret_int (by simp [goodShare]), rfl⟩
    · have hz : ((n : Int) == 0) = false := by simp; omega
      obtain ⟨b, off, rfl, hb, hc⟩ := h.pos (by omega)
      clear h
      go_enter Try.func12, Try.ntmps12
      go_wp2
      go_loop [3, 4] (fun t i => ∃ k : Nat, k ≤ n ∧ i = .int .i64 k ∧ t = .int .i64 (cntB L k)) (fun _ i => n - (intOf i).toNat)
      case atStart => exact ⟨0, Nat.zero_le _, rfl, rfl⟩
      case round =>
        obtain ⟨k, hk, rfl, rfl⟩ := hrel
        have hcl := cntB_le L k
        by_cases hlt : k < n
        · have hck := hc k hlt
          clear hc
          cases hL : L k
          · have e := cntB_no L k hL
            have E := Lib.hid e
            clear e
            go_wp2_with (go_at_call 22; refine (toInt_calls _ _).mono ?_; rintro e w' ⟨rfl, rfl⟩)
            go_round
            case rel => exact ⟨k + 1, by omega, by go_num, by rw [E.out]; try go_num⟩
            case measure => simp [intOf]; omega
          · have e := cntB_yes L k hL
            have E := Lib.hid e
            clear e
            go_wp2_with (go_at_call 22; refine (toInt_calls _ _).mono ?_; rintro e w' ⟨rfl, rfl⟩)
            go_round
            case rel => exact ⟨k + 1, by omega, by go_num, by rw [E.out]; try go_num⟩
            case measure => simp [intOf]; omega
        · obtain rfl : k = n := by omega
          clear hc
          go_wp2
          go_ret
          exact ⟨ret_int (by simp [goodShare, h12, h0]), rfl⟩
end Go.Proofs.Ytacdgddamphgnaa
