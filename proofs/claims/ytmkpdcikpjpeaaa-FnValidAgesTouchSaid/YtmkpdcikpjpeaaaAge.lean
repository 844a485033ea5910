/- ValidAges of program and reference; lifeOf, LifeOf, the end of a connection. -/
import Derived.Test.YtmkpdcikpjpeaaaAgeS
namespace Go.Proofs.Ytmkpdcikpjpeaaa
open Go.ChangeShapes Go.WideShapes Go.ChangeAt Go.RowKit
set_option linter.unusedVariables false

theorem quiet_left {P : Program} {f : FuncId} {args : Array Value} {w : World} {n : Nat} {v : Value}
    (h : Calls P f args (w.drewN n) fun e w' => e = .returned v ∧ w.drewN n = w') : Calls P f args (w.drewN n) fun e w'' => e = .returned v ∧ ∃ m, w'' = w.drewN m :=
  h.mono fun _ _ ⟨he, hm⟩ => ⟨he, n, hm.symm⟩

theorem isTime_calls (n : Int) (w : World) : Calls Try.prog 45 #[.int .i64 n] w fun e w' => e = .returned (.bool (inB 0 1000 n)) ∧ w = w' := by
  go_enter Try.func45, Try.ntmps45
  go_wp2_with (go_at_call 46; refine (in_calls _ _ _ _).mono ?_; rintro e w' ⟨rfl, rfl⟩)
  go_ret
  exact ⟨rfl, rfl⟩
theorem isSpan_calls (n : Int) (w : World) : Calls Try.prog 52 #[.int .i64 n] w fun e w' => e = .returned (.bool (inB 1 1000 n)) ∧ w = w' := by
  go_enter Try.func52, Try.ntmps52
  go_wp2_with (go_at_call 46; refine (in_calls _ _ _ _).mono ?_; rintro e w' ⟨rfl, rfl⟩)
  go_ret
  exact ⟨rfl, rfl⟩
theorem isConn_calls (n : Int) (w : World) : Calls Try.prog 59 #[.int .i64 n] w fun e w' => e = .returned (.bool (inB 0 5 n)) ∧ w = w' := by
  go_enter Try.func59, Try.ntmps59
  go_wp2_with (go_at_call 46; refine (in_calls _ _ _ _).mono ?_; rintro e w' ⟨rfl, rfl⟩)
  go_ret
  exact ⟨rfl, rfl⟩
theorem badAge_calls (x : Ag) (w : World) : Calls Try.prog 44 #[.agg #[.int .i64 x.born, .int .i64 x.used]] w fun e w' => e = .returned (.bool (!okA1 x)) ∧ Below w.heap.size w w' := by
  rcases chain2 (inB 0 1000 x.born) (inB x.born 1000 x.used) with h1 | ⟨h1, h2⟩ | ⟨h1, h2⟩
  all_goals
    go_enter Try.func44, Try.ntmps44
    go_wp2_with first | (go_at_call 45; refine (isTime_calls _ _).mono ?_; rintro e w' ⟨rfl, rfl⟩) | (go_at_call 46; refine (in_calls _ _ _ _).mono ?_; rintro e w' ⟨rfl, rfl⟩)
    go_ret
    exact ⟨ret_bool (by simp [okA1, *]), by go_grown⟩

/-- Some index, or none. -/
def Idx (b : Bool) (w : World) (e : Ending) (w' : World) : Prop := ∃ v : Int, e = .returned (.int .i64 v) ∧ decide (0 ≤ v) = b ∧ Below w.heap.size w w'
theorem okA_no {L : Nat → Ag} {n k : Nat} (hk : k < n) (h : okA1 (L k) = false) : okA L n = false := by
  cases hv : okA L n
  · rfl
  · rw [okA_all.1 hv k hk] at h; simp at h
theorem idxAge_calls (ao : Option Addr) (n cap : Nat) (L : Nat → Ag) (w : World) (h : RdA w ao n cap L) :
    Calls Try.prog 61 #[.slice ao n cap, .func (.func 44) #[] #[]] w (Idx (!okA L n) w) := by
  have hlen := h.len
  go_enter Try.func61, Try.ntmps61
  go_wp2
  go_loopw [8] (fun i wr => ∃ k : Nat, k ≤ n ∧ i = .int .i64 k ∧ okA L k = true ∧ Below w.heap.size w wr) (fun i _ => n - (intOf i).toNat)
  case atStart => exact ⟨0, Nat.zero_le _, rfl, rfl, Below.refl _ _⟩
  case round =>
    obtain ⟨k, hk, rfl, hok, hB⟩ := hrel
    have HK := Lib.hid hok
    clear hok
    by_cases hlt : k < n
    · obtain ⟨b, off, rfl, hb, hc⟩ := h.pos (by omega)
      obtain ⟨q0, q1⟩ := hc k hlt
      have c0 := (hB.cell (p := ⟨b, off + k * 2, none⟩) hb).trans q0
      have c1 := (hB.cell (p := ⟨b, off + k * 2 + 1, none⟩) hb).trans q1
      have i0 : (k : Int) < (n : Int) := by omega
      clear hc q0 q1
      have V := badAge_calls (L k) wr
      cases hx : okA1 (L k)
      · have HN := Lib.hid (okA_no hlt hx)
        rw [hx] at V
        clear hx
        go_wp2_with (go_at_call 44; refine (V).mono ?_; rintro e w' ⟨rfl, hb1⟩)
        go_ret
        exact ⟨(k : Int), rfl, by rw [HN.out]; simp, hB.trans (hb1.mono hB.size)⟩
      · have HN := Lib.hid (show okA L (k + 1) = true by simp [okA, HK.out, hx])
        rw [hx] at V
        clear hx
        go_wp2_with (go_at_call 44; refine (V).mono ?_; rintro e w' ⟨rfl, hb1⟩)
        go_roundw
        case rel => exact ⟨k + 1, by omega, by go_num, HN.out, hB.trans (hb1.mono hB.size)⟩
        case measure => simp [intOf]; omega
    · obtain rfl : k = n := by omega
      go_wp2
      go_ret
      exact ⟨-1, rfl, by rw [HK.out]; rfl, hB⟩
theorem anyAge_calls (ao : Option Addr) (n cap : Nat) (L : Nat → Ag) (w : World) (h : RdA w ao n cap L) :
    Calls Try.prog 43 #[.slice ao n cap, .func (.func 44) #[] #[]] w fun e w' => e = .returned (.bool (!okA L n)) ∧ Below w.heap.size w w' := by
  go_enter Try.func43, Try.ntmps43
  go_wp2_with fail
  refine (idxAge_calls ao n cap L w h).mono ?_
  rintro e w1 ⟨v, rfl, hv, hb⟩
  have HV := Lib.hid hv
  clear hv
  go_wp2
  go_ret
  exact ⟨ret_bool HV.out, hb⟩
theorem implValidAges_calls (ao : Option Addr) (n cap : Nat) (L : Nat → Ag) (w : World) (h : RdA w ao n cap L) :
    Calls Try.prog 18 #[.slice ao n cap] w fun e w' => e = .returned (.bool (vA L n)) ∧ Below w.heap.size w w' := by
  have hlen := h.len
  by_cases h6 : n ≤ 6
  · have e1 : vA L n = okA L n := by simp [vA, h6]
    rw [e1]
    go_enter Try.func18, Try.ntmps18
    go_wp2_with (go_at_call 43; refine (anyAge_calls _ _ _ L _ h).mono ?_; rintro e w' ⟨rfl, hb⟩)
    go_ret
    exact ⟨ret_bool (by simp), hb⟩
  · have e1 : vA L n = false := by simp [vA, h6]
    rw [e1]
    go_enter Try.func18, Try.ntmps18
    go_wp2
    go_ret
    exact ⟨rfl, Below.refl _ _⟩

theorem specvalidAges_calls (ao : Option Addr) (n cap : Nat) (L : Nat → Ag) (w : World) (h : RdA w ao n cap L) :
    Calls Try.prog 47 #[.slice ao n cap] w fun e w' => e = .returned (.bool (vA L n)) ∧ Below w.heap.size w w' := by
  have hlen := h.len
  go_enter Try.func47, Try.ntmps47
  go_wp2
  go_loopw [3] (fun i wr => ∃ k : Nat, k ≤ n ∧ i = .int .i64 k ∧ okA L k = true ∧ Below w.heap.size w wr) (fun i _ => n - (intOf i).toNat)
  case atStart => exact ⟨0, Nat.zero_le _, rfl, rfl, Below.refl _ _⟩
  case round =>
    obtain ⟨k, hk, rfl, hok, hB⟩ := hrel
    have HK := Lib.hid hok
    clear hok
    by_cases hlt : k < n
    · obtain ⟨b, off, rfl, hb, hc⟩ := h.pos (by omega)
      obtain ⟨q0, q1⟩ := hc k hlt
      have c0 := (hB.cell (p := ⟨b, off + k * 2, none⟩) hb).trans q0
      have c1 := (hB.cell (p := ⟨b, off + k * 2 + 1, none⟩) hb).trans q1
      have i0 : (k : Int) < (n : Int) := by omega
      clear hc q0 q1
      rcases chain2 (inB 0 1000 (L k).born) (inB (L k).born 1000 (L k).used) with h1 | ⟨h1, h2⟩ | ⟨h1, h2⟩
      case inr.inr =>
        have HN := Lib.hid (show okA L (k + 1) = true by simp [okA, okA1, HK.out, h1, h2])
        go_wp2
        go_quiet ((go_at_call 50; exact quiet_left (inRange_calls _ _ _ _)))
        go_wp2
        go_roundw
        case rel => exact ⟨k + 1, by omega, by go_num, HN.out, below_drewN hB _⟩
        case measure => simp [intOf]; omega
      all_goals
        have HN := Lib.hid (show vA L n = false by simp [vA, okA_no hlt (show okA1 (L k) = false by simp [okA1, *])])
        go_wp2
        go_quiet ((go_at_call 50; exact quiet_left (inRange_calls _ _ _ _)))
        go_wp2
        go_ret
        exact ⟨ret_bool HN.out.symm, below_drewN hB _⟩
    · obtain rfl : k = n := by omega
      have e : vA L k = decide (k ≤ 6) := by simp [vA, HK.out]
      have HE := Lib.hid e
      clear e
      go_wp2
      go_ret
      exact ⟨ret_bool (by rw [HE.out]; simp; omega), hB⟩
theorem specValidAges_calls (ao : Option Addr) (n cap : Nat) (L : Nat → Ag) (w : World) (h : RdA w ao n cap L) :
    Calls Try.prog 19 #[.slice ao n cap] w fun e w' => e = .returned (.bool (vA L n)) ∧ Below w.heap.size w w' := by
  go_enter Try.func19, Try.ntmps19
  go_wp2_with fail
  refine (specvalidAges_calls ao n cap L w h).mono ?_
  rintro e w1 ⟨rfl, hb⟩
  go_wp2
  go_ret
  exact ⟨rfl, hb⟩

theorem impllifeOf_calls (c : Nat) (life : Int) (w : World) (hc : c < 6) (h1 : 1 ≤ life) (h2 : life ≤ 1000) : Calls Try.prog 60 #[.int .i64 c, .int .i64 life] w fun e w' => e = .returned (.int .i64 (lifeOf c life)) ∧ w = w' := by
  have : c = 0 ∨ c = 1 ∨ c = 2 ∨ c = 3 ∨ c = 4 ∨ c = 5 := by omega
  rcases this with rfl | rfl | rfl | rfl | rfl | rfl
  · show Calls Try.prog 60 #[.int .i64 (0 : Int), .int .i64 life] w _
    go_enter Try.func60, Try.ntmps60
    go_wp2
    go_ret
    exact ⟨ret_int (by simp [lifeOf]), rfl⟩
  · show Calls Try.prog 60 #[.int .i64 (1 : Int), .int .i64 life] w _
    go_enter Try.func60, Try.ntmps60
    go_wp2
    go_ret
    exact ⟨ret_int (by simp [lifeOf]), rfl⟩
  · show Calls Try.prog 60 #[.int .i64 (2 : Int), .int .i64 life] w _
    go_enter Try.func60, Try.ntmps60
    go_wp2
    go_ret
    exact ⟨ret_int (by simp [lifeOf]), rfl⟩
  · show Calls Try.prog 60 #[.int .i64 (3 : Int), .int .i64 life] w _
    go_enter Try.func60, Try.ntmps60
    go_wp2
    go_ret
    exact ⟨ret_int (by simp [lifeOf]), rfl⟩
  · show Calls Try.prog 60 #[.int .i64 (4 : Int), .int .i64 life] w _
    go_enter Try.func60, Try.ntmps60
    go_wp2
    go_ret
    exact ⟨ret_int (by simp [lifeOf]), rfl⟩
  · show Calls Try.prog 60 #[.int .i64 (5 : Int), .int .i64 life] w _
    go_enter Try.func60, Try.ntmps60
    go_wp2
    go_ret
    exact ⟨ret_int (by simp [lifeOf]), rfl⟩
theorem speclifeOf_calls (c : Nat) (life : Int) (w : World) (hc : c < 6) (h1 : 1 ≤ life) (h2 : life ≤ 1000) : Calls Try.prog 51 #[.int .i64 c, .int .i64 life] w fun e w' => e = .returned (.int .i64 (lifeOf c life)) ∧ w = w' := by
  have : c = 0 ∨ c = 1 ∨ c = 2 ∨ c = 3 ∨ c = 4 ∨ c = 5 := by omega
  rcases this with rfl | rfl | rfl | rfl | rfl | rfl
  · show Calls Try.prog 51 #[.int .i64 (0 : Int), .int .i64 life] w _
    go_enter Try.func51, Try.ntmps51
    go_wp2
    go_ret
    exact ⟨ret_int (by simp [lifeOf]), rfl⟩
  · show Calls Try.prog 51 #[.int .i64 (1 : Int), .int .i64 life] w _
    go_enter Try.func51, Try.ntmps51
    go_wp2
    go_ret
    exact ⟨ret_int (by simp [lifeOf]), rfl⟩
  · show Calls Try.prog 51 #[.int .i64 (2 : Int), .int .i64 life] w _
    go_enter Try.func51, Try.ntmps51
    go_wp2
    go_ret
    exact ⟨ret_int (by simp [lifeOf]), rfl⟩
  · show Calls Try.prog 51 #[.int .i64 (3 : Int), .int .i64 life] w _
    go_enter Try.func51, Try.ntmps51
    go_wp2
    go_ret
    exact ⟨ret_int (by simp [lifeOf]), rfl⟩
  · show Calls Try.prog 51 #[.int .i64 (4 : Int), .int .i64 life] w _
    go_enter Try.func51, Try.ntmps51
    go_wp2
    go_ret
    exact ⟨ret_int (by simp [lifeOf]), rfl⟩
  · show Calls Try.prog 51 #[.int .i64 (5 : Int), .int .i64 life] w _
    go_enter Try.func51, Try.ntmps51
    go_wp2
    go_ret
    exact ⟨ret_int (by simp [lifeOf]), rfl⟩
theorem implLifeOf_calls (c : Nat) (life : Int) (w : World) (hc : c < 6) (h1 : 1 ≤ life) (h2 : life ≤ 1000) : Calls Try.prog 37 #[.int .i64 c, .int .i64 life] w fun e w' => e = .returned (.int .i64 (lifeOf c life)) ∧ w = w' := by
  have e1 : inB 0 5 (c : Int) = true := inB_mk (by omega)
  have e2 : inB 1 1000 life = true := inB_mk (by omega)
  go_enter Try.func37, Try.ntmps37
  go_wp2_with first | (go_at_call 59; refine (isConn_calls _ _).mono ?_; rintro e w' ⟨rfl, rfl⟩) | (go_at_call 52; refine (isSpan_calls _ _).mono ?_; rintro e w' ⟨rfl, rfl⟩) | (go_at_call 60; refine (impllifeOf_calls c life _ hc h1 h2).mono ?_; rintro e w' ⟨rfl, rfl⟩)
  go_ret
  exact ⟨rfl, rfl⟩

theorem end_calls (x : Ag) (c : Nat) (life rest : Int) (w : World) (hc : c < 6) (h1 : 1 ≤ life) (h2 : life ≤ 1000) (h3 : 1 ≤ rest) (h4 : rest ≤ 1000) (hb0 : 0 ≤ x.born) (hb1 : x.born ≤ 1000) (hu0 : 0 ≤ x.used) (hu1 : x.used ≤ 1000) :
    Calls Try.prog 53 #[.agg #[.int .i64 x.born, .int .i64 x.used], .int .i64 c, .int .i64 life, .int .i64 rest] w fun e w' => e = .returned (.int .i64 (endA x c life rest)) ∧ Below w.heap.size w w' := by
  have hl := lifeOf_facts (c := c) (life := life) hc h1 h2
  have w1 : IntKind.i64.wrap (x.born + lifeOf c life) = x.born + lifeOf c life := IntWalk.i64_in _ (by omega)
  have w2 : IntKind.i64.wrap (x.used + rest) = x.used + rest := IntWalk.i64_in _ (by omega)
  have HM := Lib.hid (show endA x c life rest = min (x.born + lifeOf c life) (x.used + rest) from rfl)
  go_enter Try.func53, Try.ntmps53
  go_wp2
  go_quiet ((go_at_call 60; exact quiet_left (impllifeOf_calls c life _ hc h1 h2)))
  go_wp2
  all_goals
    go_ret
    exact ⟨ret_int (by rw [HM.out]; omega), below_drewN (by go_grown) _⟩
end Go.Proofs.Ytmkpdcikpjpeaaa
