/- ServeTimes, CountServed, LongestWait, ConnsFor of program and reference: each computes a plain function. -/
import Derived.Test.YtmabhoglnapgdaaServe
import Derived.Deep.Onto
namespace Go.Proofs.Ytmabhoglnapgdaa
open Go.ChangeShapes Go.WideShapes Go.ChangeAt Go.RowKit
set_option linter.unusedVariables false

/-- Integers in new memory. -/
def OwnI (w : World) (n : Nat) (zs : List Int) (e : Ending) (w' : World) : Prop :=
  zs.length = n ∧ ∃ v, e = .returned v ∧ w'.ownsRow w.heap.size 3 1 v n (zs.map (Value.int .i64)) ∧ (∃ ao cap, v = .slice ao n cap) ∧ Below w.heap.size w w'
def serveT (L : Nat → Wi) (n : Nat) (many : Int) : List Int := if okS L n many then (List.range n).map (outW L many.toNat) else []
def serveN (L : Nat → Wi) (n : Nat) (many : Int) : Nat := if okS L n many then n else 0
theorem serveT_len (L : Nat → Wi) (n : Nat) (many : Int) : (serveT L n many).length = serveN L n many := by unfold serveT serveN; split <;> simp
theorem okS_yes {L : Nat → Wi} {n : Nat} {many : Int} (h : okS L n many = true) : vW L n = true ∧ 1 ≤ many ∧ many ≤ 6 := by
  simp only [okS, Bool.and_eq_true] at h
  have := inB_yes h.2
  exact ⟨h.1, this.1, this.2⟩
theorem vW_yes {L : Nat → Wi} {n : Nat} (h : vW L n = true) : okW L n = true ∧ n ≤ 12 := by
  simpa only [vW, Bool.and_eq_true, decide_eq_true_eq] using h

theorem implServeTimes_calls (ao : Option Addr) (n cap : Nat) (L : Nat → Wi) (many : Int) (w : World) (h : RdW w ao n cap L) :
    Calls Try.prog 27 #[.slice ao n cap, .int .i64 many] w (OwnI w (serveN L n many) (serveT L n many)) := by
  cases hk : okS L n many
  · have e1 : serveN L n many = 0 := by simp [serveN, hk]
    have e2 : serveT L n many = [] := by simp [serveT, hk]
    rw [e1, e2]
    have HK := Lib.hid hk
    clear e1 e2 hk
    go_enter Try.func27, Try.ntmps27
    go_wp2_with fail
    refine (implserve_calls ao n cap L many w h).mono ?_
    rintro e w1 (⟨h1, rfl, hb⟩ | ⟨h1, _⟩)
    · clear h1
      go_wp2
      go_ret
      exact ⟨rfl, _, rfl, World.ownsRow_nil _ _ _ _, ⟨_, _, rfl⟩, hb⟩
    · rw [HK.out] at h1; simp at h1
  · have e1 : serveN L n many = n := by simp [serveN, hk]
    have e2 : serveT L n many = (List.range n).map (outW L many.toNat) := by simp [serveT, hk]
    rw [e1, e2]
    have HK := Lib.hid hk
    clear e1 e2 hk
    go_enter Try.func27, Try.ntmps27
    go_wp2_with fail
    refine (implserve_calls ao n cap L many w h).mono ?_
    rintro e w1 (⟨h1, _⟩ | ⟨h1, v, rfl, ho, ⟨a, c, rfl⟩, hb⟩)
    · rw [HK.out] at h1; simp at h1
    · have HO := Lib.hid ho
      clear h1 ho
      go_wp2
      go_ret
      exact ⟨by simp, _, rfl, HO.out, ⟨_, _, rfl⟩, hb⟩

theorem specServeTimes_calls (ao : Option Addr) (n cap : Nat) (L : Nat → Wi) (many : Int) (w : World) (h : RdW w ao n cap L) :
    Calls Try.prog 29 #[.slice ao n cap, .int .i64 many] w (OwnI w (serveN L n many) (serveT L n many)) := by
  have V := specvalidWishes_calls ao n cap L w h
  cases hv : vW L n
  · rw [hv] at V
    have e1 : serveN L n many = 0 := by simp [serveN, okS, hv]
    have e2 : serveT L n many = [] := by simp [serveT, okS, hv]
    rw [e1, e2]
    clear e1 e2 hv
    go_enter Try.func29, Try.ntmps29
    go_wp2_with (go_at_call 46; refine (V).mono ?_; rintro e w' ⟨rfl, hb⟩)
    go_ret
    exact ⟨rfl, _, rfl, World.ownsRow_nil _ _ _ _, ⟨_, _, rfl⟩, hb⟩
  · rw [hv] at V
    cases hi : inB 1 6 many
    · have e1 : serveN L n many = 0 := by simp [serveN, okS, hi]
      have e2 : serveT L n many = [] := by simp [serveT, okS, hi]
      rw [e1, e2]
      clear e1 e2 hv
      go_enter Try.func29, Try.ntmps29
      go_wp2_with first | (go_at_call 46; refine (V).mono ?_; rintro e w' ⟨rfl, hb⟩) | (go_at_call 51; refine (inRange_calls _ _ _ _).mono ?_; rintro e w' ⟨rfl, rfl⟩)
      go_ret
      exact ⟨rfl, _, rfl, World.ownsRow_nil _ _ _ _, ⟨_, _, rfl⟩, hb⟩
    · obtain ⟨i1, i2⟩ := inB_yes hi
      obtain ⟨m, rfl⟩ : ∃ m : Nat, many = (m : Int) := ⟨many.toNat, by omega⟩
      have e1 : serveN L n (m : Int) = n := by simp [serveN, okS, hv, hi]
      have e2 : serveT L n (m : Int) = (List.range n).map (outW L m) := by simp [serveT, okS, hv, hi]
      rw [e1, e2]
      have HV := Lib.hid hv
      clear e1 e2 hv
      go_enter Try.func29, Try.ntmps29
      go_wp2_with first | (go_at_call 46; refine (V).mono ?_; rintro e w' ⟨rfl, hb⟩) | (go_at_call 51; refine (inRange_calls _ _ _ _).mono ?_; rintro e w' ⟨rfl, rfl⟩) | (go_at_call 52; refine (specserve_calls ao n cap L m _ (h.below hb) HV.out (by omega) (by omega)).mono ?_; rintro e w2 ⟨v, rfl, ho, ⟨a, c, rfl⟩, hb2⟩; have HO := Lib.hid (World.ownsRow.mono ho hb.size); clear ho)
      go_ret
      exact ⟨by simp, _, rfl, HO.out, ⟨_, _, rfl⟩, hb.trans (hb2.mono hb.size)⟩

/-- What the call owns reads as integers. -/
theorem RdI_of_ownF {w : World} {base : Nat} {e : TypeId} {ao : Option Addr} {n cap : Nat} {f : Nat → Int} (h : w.ownsRow base e 1 (.slice ao n cap) n (((List.range n).map f).map (Value.int .i64))) : RdI w ao n cap f := by
  have hl : ((List.range n).map f).length = n := by simp
  have h' : w.ownsRow base e 1 (.slice ao n cap) ((List.range n).map f).length (((List.range n).map f).map (Value.int .i64)) := by rw [hl]; exact h
  obtain ⟨a, c, h1, h2, _⟩ := RdI_of_own h'
  rw [hl] at h1 h2
  injection h1 with h1a h1b h1c
  subst h1a h1c
  exact h2.congr (fun i hi j _ => congrArg (Value.int .i64) (by simp [hi]))

def countS (L : Nat → Wi) (n : Nat) (many : Int) : Int := if okS L n many then (cntW L many.toNat n : Int) else -1
def waitS (L : Nat → Wi) (n : Nat) (many : Int) : Int := if okS L n many then longW L many.toNat n else -1
theorem cnt_yes {L : Nat → Wi} {m k : Nat} (h : 0 ≤ outW L m k) : cntW L m (k + 1) = cntW L m k + 1 := by simp [cntW, h]
theorem cnt_no {L : Nat → Wi} {m k : Nat} (h : outW L m k < 0) : cntW L m (k + 1) = cntW L m k := by
  have : ¬ 0 ≤ outW L m k := by omega
  simp [cntW, this]

theorem implCountServed_calls (ao : Option Addr) (n cap : Nat) (L : Nat → Wi) (many : Int) (w : World) (h : RdW w ao n cap L) :
    Calls Try.prog 34 #[.slice ao n cap, .int .i64 many] w fun e w' => e = .returned (.int .i64 (countS L n many)) ∧ Below w.heap.size w w' := by
  have hlen := h.len
  cases hk : okS L n many
  · have e1 : countS L n many = -1 := by simp [countS, hk]
    rw [e1]
    have HK := Lib.hid hk
    clear e1 hk
    go_enter Try.func34, Try.ntmps34
    go_wp2_with fail
    refine (implserve_calls ao n cap L many w h).mono ?_
    rintro e w1 (⟨h1, rfl, hb⟩ | ⟨h1, _⟩)
    · clear h1
      go_wp2
      go_ret
      exact ⟨rfl, hb⟩
    · rw [HK.out] at h1; simp at h1
  · obtain ⟨m, rfl⟩ : ∃ m : Nat, many = (m : Int) := ⟨many.toNat, by have := okS_yes hk; omega⟩
    have e1 : countS L n (m : Int) = (cntW L m n : Int) := by simp [countS, hk]
    rw [e1]
    have hok := (vW_yes (okS_yes hk).1).1
    have HK := Lib.hid hk
    have HOK := Lib.hid hok
    clear e1 hk hok
    go_enter Try.func34, Try.ntmps34
    go_wp2_with fail
    refine (implserve_calls ao n cap L (m : Int) w h).mono ?_
    rintro e w1 (⟨h1, _⟩ | ⟨h1, v, rfl, ho, ⟨a, c, rfl⟩, hb⟩)
    · rw [HK.out] at h1; simp at h1
    simp only [Int.toNat_natCast] at ho
    have hR := RdI_of_ownF ho
    clear h1 ho
    go_wp2
    go_loopw [7, 20] (fun t i wr => ∃ k : Nat, k ≤ n ∧ i = .int .i64 k ∧ t = .int .i64 (cntW L m k : Nat) ∧ Below w1.heap.size w1 wr) (fun _ i _ => n - (intOf i).toNat)
    case atStart => exact ⟨0, Nat.zero_le _, rfl, rfl, Below.refl _ _⟩
    case round =>
      obtain ⟨k, hk, rfl, rfl, hB⟩ := hrel
      have hcl := cntW_le L m k
      by_cases hlt : k < n
      · obtain ⟨b, off, rfl, hbb, hc⟩ := hR.pos (by omega)
        have c0 := (hB.cell (p := ⟨b, off + k, none⟩) hbb).trans (hc k hlt)
        clear hc
        by_cases h0 : 0 ≤ outW L m k
        · have HS := Lib.hid (cnt_yes h0)
          go_wp2
          go_roundw
          case rel => exact ⟨k + 1, by omega, by go_num, by rw [HS.out]; go_num, by go_grown⟩
          case measure => simp [intOf]; omega
        · have HS := Lib.hid (cnt_no (show outW L m k < 0 by omega))
          go_wp2
          go_roundw
          case rel => exact ⟨k + 1, by omega, by go_num, by rw [HS.out], by go_grown⟩
          case measure => simp [intOf]; omega
      · obtain rfl : k = n := by omega
        go_wp2
        go_ret
        exact ⟨rfl, hb.trans (hB.mono hb.size)⟩
end Go.Proofs.Ytmabhoglnapgdaa
