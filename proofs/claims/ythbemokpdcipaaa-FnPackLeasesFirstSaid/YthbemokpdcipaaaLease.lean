/- ValidLeases of program and reference. -/
import Derived.Test.YthbemokpdcipaaaLeaseS
namespace Go.Proofs.Ythbemokpdcipaaa
open Go.ChangeShapes Go.WideShapes Go.ChangeAt Go.RowKit
set_option linter.unusedVariables false

theorem quiet_left {P : Program} {f : FuncId} {args : Array Value} {w : World} {n : Nat} {v : Value}
    (h : Calls P f args (w.drewN n) fun e w' => e = .returned v ∧ w.drewN n = w') : Calls P f args (w.drewN n) fun e w'' => e = .returned v ∧ ∃ m, w'' = w.drewN m :=
  h.mono fun _ _ ⟨he, hm⟩ => ⟨he, n, hm.symm⟩
theorem isConn_calls (n : Int) (w : World) : Calls Try.prog 56 #[.int .i64 n] w fun e w' => e = .returned (.bool (inB 0 5 n)) ∧ w = w' := by
  go_enter Try.func56, Try.ntmps56
  go_wp2_with (go_at_call 58; refine (in_calls _ _ _ _).mono ?_; rintro e w' ⟨rfl, rfl⟩)
  go_ret
  exact ⟨rfl, rfl⟩
theorem isOwner_calls (n : Int) (w : World) : Calls Try.prog 57 #[.int .i64 n] w fun e w' => e = .returned (.bool (inB 0 4 n)) ∧ w = w' := by
  go_enter Try.func57, Try.ntmps57
  go_wp2_with (go_at_call 58; refine (in_calls _ _ _ _).mono ?_; rintro e w' ⟨rfl, rfl⟩)
  go_ret
  exact ⟨rfl, rfl⟩
theorem isSpan_calls (n : Int) (w : World) : Calls Try.prog 49 #[.int .i64 n] w fun e w' => e = .returned (.bool (inB 1 1000 n)) ∧ w = w' := by
  go_enter Try.func49, Try.ntmps49
  go_wp2_with (go_at_call 58; refine (in_calls _ _ _ _).mono ?_; rintro e w' ⟨rfl, rfl⟩)
  go_ret
  exact ⟨rfl, rfl⟩
theorem implmeets_calls (y : Lz) (f u : Int) (w : World) : Calls Try.prog 42 #[.agg #[.int .i64 y.conn, .int .i64 y.owner, .int .i64 y.frm, .int .i64 y.til], .int .i64 f, .int .i64 u] w fun e w' => e = .returned (.bool (meetB y f u)) ∧ Below w.heap.size w w' := by
  rcases chain2 (decide (y.frm < u)) (decide (f < y.til)) with h1 | ⟨h1, h2⟩ | ⟨h1, h2⟩
  all_goals
    go_enter Try.func42, Try.ntmps42
    go_wp2
    go_ret
    exact ⟨ret_bool (by simp [meetB, *]), by go_grown⟩
theorem specmeets_calls (y x : Lz) (w : World) : Calls Try.prog 69 #[.agg #[.int .i64 y.conn, .int .i64 y.owner, .int .i64 y.frm, .int .i64 y.til], .agg #[.int .i64 x.conn, .int .i64 x.owner, .int .i64 x.frm, .int .i64 x.til]] w fun e w' => e = .returned (.bool (meetB y x.frm x.til)) ∧ Below w.heap.size w w' := by
  rcases chain2 (decide (y.frm < x.til)) (decide (x.frm < y.til)) with h1 | ⟨h1, h2⟩ | ⟨h1, h2⟩
  all_goals
    go_enter Try.func69, Try.ntmps69
    go_wp2
    go_ret
    exact ⟨ret_bool (by simp [meetB, *]), by go_grown⟩

/-- A lease in a block of its own. -/
def BoxL (w : World) (g : Nat) (x : Lz) : Prop := w.heap[g]? = some (.cells #[.int .i64 x.conn, .int .i64 x.owner, .int .i64 x.frm, .int .i64 x.til] 29 (0, 0))
theorem BoxL.lt {w : World} {g : Nat} {x : Lz} (h : BoxL w g x) : g < w.heap.size := (Array.getElem?_eq_some_iff.1 h).1
theorem BoxL.below {w w' : World} {g : Nat} {x : Lz} (h : BoxL w g x) (hb : Below w.heap.size w w') : BoxL w' g x := (hb.block g h.lt).trans h
theorem BoxL.cells {w : World} {g : Nat} {x : Lz} (h : BoxL w g x) : w.cell? ⟨g, 0, none⟩ = some (.int .i64 x.conn) ∧ w.cell? ⟨g, 1, none⟩ = some (.int .i64 x.owner) ∧ w.cell? ⟨g, 2, none⟩ = some (.int .i64 x.frm) ∧ w.cell? ⟨g, 3, none⟩ = some (.int .i64 x.til) := by
  refine ⟨?_, ?_, ?_, ?_⟩
  all_goals (rw [cell_of_row w g _ _ _ _ h]; rfl)

theorem clash_calls (y x : Lz) (g : Nat) (w : World) (h : BoxL w g x) : Calls Try.prog 60 #[.agg #[.int .i64 y.conn, .int .i64 y.owner, .int .i64 y.frm, .int .i64 y.til], .pointer (some ⟨g, 0, none⟩)] w fun e w' => e = .returned (.bool (clashB y x)) ∧ Below w.heap.size w w' := by
  obtain ⟨c0, c1, c2, c3⟩ := h.cells
  have hlt := h.lt
  have n1 : ¬ w.heap.size = g := by omega
  have n2 : ¬ g = w.heap.size := by omega
  by_cases hc : y.conn = x.conn
  · have hc' : (y.conn == x.conn) = true := by simp [hc]
    have HE := Lib.hid (show clashB y x = meetB y x.frm x.til by simp [clashB, hc])
    clear hc
    go_enter Try.func60, Try.ntmps60
    go_wp2_with (go_at_call 42; refine (implmeets_calls _ _ _ _).mono ?_; rintro e w' ⟨rfl, hb⟩)
    go_ret
    exact ⟨ret_bool HE.out.symm, Below.trans (by go_grown) (hb.mono (by simp))⟩
  · have hc' : (y.conn == x.conn) = false := by simp [hc]
    have HE := Lib.hid (show clashB y x = false by simp [clashB, hc])
    clear hc
    go_enter Try.func60, Try.ntmps60
    go_wp2
    go_ret
    exact ⟨ret_bool HE.out.symm, by go_grown⟩

/-- Some index, or none. -/
def Idx (b : Bool) (w : World) (e : Ending) (w' : World) : Prop := ∃ v : Int, e = .returned (.int .i64 v) ∧ decide (0 ≤ v) = b ∧ Below w.heap.size w w'
theorem anyC_yes {L : Nat → Lz} {x : Lz} {k n : Nat} (hk : k < n) (h : clashB (L k) x = true) : anyC L x n = true := anyC_iff.2 ⟨k, hk, h⟩
theorem idxL_calls (ao : Option Addr) (n cap : Nat) (L : Nat → Lz) (x : Lz) (g : Nat) (w : World) (h : RdL w ao n cap L) (hx : BoxL w g x) :
    Calls Try.prog 70 #[.slice ao n cap, .func (.func 60) #[] #[.pointer (some ⟨g, 0, none⟩)]] w (Idx (anyC L x n) w) := by
  have hlen := h.len
  go_enter Try.func70, Try.ntmps70
  go_wp2
  go_loopw [8] (fun i wr => ∃ k : Nat, k ≤ n ∧ i = .int .i64 k ∧ anyC L x k = false ∧ Below w.heap.size w wr) (fun i _ => n - (intOf i).toNat)
  case atStart => exact ⟨0, Nat.zero_le _, rfl, rfl, Below.refl _ _⟩
  case round =>
    obtain ⟨k, hk, rfl, hok, hB⟩ := hrel
    have HK := Lib.hid hok
    clear hok
    by_cases hlt : k < n
    · obtain ⟨b, off, rfl, hb, hc⟩ := h.pos (by omega)
      obtain ⟨q0, q1, q2, q3⟩ := hc k hlt
      have c0 := (hB.cell (p := ⟨b, off + k * 4, none⟩) hb).trans q0
      have c1 := (hB.cell (p := ⟨b, off + k * 4 + 1, none⟩) hb).trans q1
      have c2 := (hB.cell (p := ⟨b, off + k * 4 + 2, none⟩) hb).trans q2
      have c3 := (hB.cell (p := ⟨b, off + k * 4 + 3, none⟩) hb).trans q3
      have i0 : (k : Int) < (n : Int) := by omega
      clear hc q0 q1 q2 q3
      have V := clash_calls (L k) x g wr (hx.below hB)
      cases hcl : clashB (L k) x
      · have HN := Lib.hid (show anyC L x (k + 1) = false by simp [anyC, HK.out, hcl])
        rw [hcl] at V
        clear hcl
        go_wp2_with (go_at_call 60; refine (V).mono ?_; rintro e w' ⟨rfl, hb1⟩)
        go_roundw
        case rel => exact ⟨k + 1, by omega, by go_num, HN.out, hB.trans (hb1.mono hB.size)⟩
        case measure => simp [intOf]; omega
      · have HN := Lib.hid (anyC_yes hlt hcl)
        rw [hcl] at V
        clear hcl
        go_wp2_with (go_at_call 60; refine (V).mono ?_; rintro e w' ⟨rfl, hb1⟩)
        go_ret
        exact ⟨(k : Int), rfl, by rw [HN.out]; simp, hB.trans (hb1.mono hB.size)⟩
    · obtain rfl : k = n := by omega
      go_wp2
      go_ret
      exact ⟨-1, rfl, by rw [HK.out]; rfl, hB⟩
theorem anyL_calls (ao : Option Addr) (n cap : Nat) (L : Nat → Lz) (x : Lz) (g : Nat) (w : World) (h : RdL w ao n cap L) (hx : BoxL w g x) :
    Calls Try.prog 59 #[.slice ao n cap, .func (.func 60) #[] #[.pointer (some ⟨g, 0, none⟩)]] w fun e w' => e = .returned (.bool (anyC L x n)) ∧ Below w.heap.size w w' := by
  go_enter Try.func59, Try.ntmps59
  go_wp2_with fail
  refine (idxL_calls ao n cap L x g w h hx).mono ?_
  rintro e w1 ⟨v, rfl, hv, hb⟩
  have HV := Lib.hid hv
  clear hv
  go_wp2
  go_ret
  exact ⟨ret_bool HV.out, hb⟩

set_option maxHeartbeats 800000 in
theorem implValidLeases_calls (ao : Option Addr) (n cap : Nat) (L : Nat → Lz) (w : World) (h : RdL w ao n cap L) :
    Calls Try.prog 32 #[.slice ao n cap] w fun e w' => e = .returned (.bool (vL L n)) ∧ Below w.heap.size w w' := by
  have hlen := h.len
  go_enter Try.func32, Try.ntmps32
  go_wp2
  go_loopw [7] (fun i wr => ∃ k : Nat, k ≤ n ∧ i = .int .i64 k ∧ okL L k = true ∧ Below w.heap.size w wr) (fun i _ => n - (intOf i).toNat)
  case atStart => exact ⟨0, Nat.zero_le _, rfl, rfl, Below.refl _ _⟩
  case round =>
    obtain ⟨k, hk, rfl, hok, hB⟩ := hrel
    have HK := Lib.hid hok
    clear hok
    by_cases hlt : k < n
    · obtain ⟨b, off, rfl, hb, hc⟩ := h.pos (by omega)
      obtain ⟨q0, q1, q2, q3⟩ := hc k hlt
      have c0 := (hB.cell (p := ⟨b, off + k * 4, none⟩) hb).trans q0
      have c1 := (hB.cell (p := ⟨b, off + k * 4 + 1, none⟩) hb).trans q1
      have c2 := (hB.cell (p := ⟨b, off + k * 4 + 2, none⟩) hb).trans q2
      have c3 := (hB.cell (p := ⟨b, off + k * 4 + 3, none⟩) hb).trans q3
      have i0 : (k : Int) < (n : Int) := by omega
      have hz := hB.size
      have hcap := h.1
      have hcap2 := h.2.1
      unfold maxLen at hcap2
      clear hc q0 q1 q2 q3
      have hBA : Below w.heap.size w (wr.alloc (.cells #[.int .i64 ((L k)).conn, .int .i64 ((L k)).owner, .int .i64 ((L k)).frm, .int .i64 ((L k)).til] 29)) := hB.alloc hz _
      have A := anyL_calls _ k cap L (L k) wr.heap.size _ (Rd.take (h.below hBA) (show k ≤ n by omega)) (heap_alloc_new wr _)
      rcases chain5 (inB 0 5 (L k).conn) (inB 0 4 (L k).owner) (inB 0 999 (L k).frm) (inB ((L k).frm + 1) 1000 (L k).til) (!anyC L (L k) k) with h1 | ⟨h1, h2⟩ | ⟨h1, h2, h3⟩ | ⟨h1, h2, h3, h4⟩ | ⟨h1, h2, h3, h4, h5⟩ | ⟨h1, h2, h3, h4, h5⟩
      case inr.inr.inr.inr.inr =>
        have hf := inB_yes h3
        have hno : anyC L (L k) k = false := by simpa using h5
        have HN := Lib.hid (show okL L (k + 1) = true by simp [okL, okL1, HK.out, h1, h2, h3, h4, hno])
        rw [hno] at A
        clear hno h5
        go_wp2_with first | (go_at_call 56; refine (isConn_calls _ _).mono ?_; rintro e w' ⟨rfl, rfl⟩) | (go_at_call 57; refine (isOwner_calls _ _).mono ?_; rintro e w' ⟨rfl, rfl⟩) | (go_at_call 58; refine (in_calls _ _ _ _).mono ?_; rintro e w' ⟨rfl, rfl⟩) | (go_at_call 59; refine (A).mono ?_; rintro e w' ⟨rfl, hb1⟩)
        go_roundw
        case rel => exact ⟨k + 1, by omega, by go_num, HN.out, hBA.trans (hb1.mono hBA.size)⟩
        case measure => simp [intOf]; omega
      case inr.inr.inr.inr.inl =>
        have hf := inB_yes h3
        have hno : anyC L (L k) k = true := by simpa using h5
        have HN := Lib.hid (vL_no hlt (show okL L (k + 1) = false by simp [okL, hno]))
        rw [hno] at A
        clear hno h5
        go_wp2_with first | (go_at_call 56; refine (isConn_calls _ _).mono ?_; rintro e w' ⟨rfl, rfl⟩) | (go_at_call 57; refine (isOwner_calls _ _).mono ?_; rintro e w' ⟨rfl, rfl⟩) | (go_at_call 58; refine (in_calls _ _ _ _).mono ?_; rintro e w' ⟨rfl, rfl⟩) | (go_at_call 59; refine (A).mono ?_; rintro e w' ⟨rfl, hb1⟩)
        go_ret
        exact ⟨ret_bool HN.out.symm, hBA.trans (hb1.mono hBA.size)⟩
      case inr.inr.inr.inl =>
        have hf := inB_yes h3
        have HN := Lib.hid (vL_no hlt (show okL L (k + 1) = false by simp [okL, okL1, h4]))
        clear A
        go_wp2_with first | (go_at_call 56; refine (isConn_calls _ _).mono ?_; rintro e w' ⟨rfl, rfl⟩) | (go_at_call 57; refine (isOwner_calls _ _).mono ?_; rintro e w' ⟨rfl, rfl⟩) | (go_at_call 58; refine (in_calls _ _ _ _).mono ?_; rintro e w' ⟨rfl, rfl⟩)
        go_ret
        exact ⟨ret_bool HN.out.symm, hBA⟩
      all_goals
        have HN := Lib.hid (vL_no hlt (show okL L (k + 1) = false by simp [okL, okL1, *]))
        clear A
        go_wp2_with first | (go_at_call 56; refine (isConn_calls _ _).mono ?_; rintro e w' ⟨rfl, rfl⟩) | (go_at_call 57; refine (isOwner_calls _ _).mono ?_; rintro e w' ⟨rfl, rfl⟩) | (go_at_call 58; refine (in_calls _ _ _ _).mono ?_; rintro e w' ⟨rfl, rfl⟩)
        go_ret
        exact ⟨ret_bool HN.out.symm, hBA⟩
    · obtain rfl : k = n := by omega
      have HE := Lib.hid (show vL L k = decide (k ≤ 12) by simp [vL, HK.out])
      go_wp2
      go_ret
      exact ⟨ret_bool (by rw [HE.out]; simp; omega), hB⟩

theorem specvalidLease_calls (x : Lz) (w : World) : Calls Try.prog 68 #[.agg #[.int .i64 x.conn, .int .i64 x.owner, .int .i64 x.frm, .int .i64 x.til]] w fun e w' => e = .returned (.bool (okL1 x)) ∧ Below w.heap.size w w' := by
  rcases chain4 (inB 0 5 x.conn) (inB 0 4 x.owner) (inB 0 999 x.frm) (inB (x.frm + 1) 1000 x.til) with h1 | ⟨h1, h2⟩ | ⟨h1, h2, h3⟩ | ⟨h1, h2, h3, h4⟩ | ⟨h1, h2, h3, h4⟩
  case inr.inr.inr.inr =>
    have hf := inB_yes h3
    go_enter Try.func68, Try.ntmps68
    go_wp2_with (go_at_call 48; refine (inRange_calls _ _ _ _).mono ?_; rintro e w' ⟨rfl, rfl⟩)
    go_ret
    exact ⟨ret_bool (by simp [okL1, h1, h2, h3, h4]), by go_grown⟩
  case inr.inr.inr.inl =>
    have hf := inB_yes h3
    go_enter Try.func68, Try.ntmps68
    go_wp2_with (go_at_call 48; refine (inRange_calls _ _ _ _).mono ?_; rintro e w' ⟨rfl, rfl⟩)
    go_ret
    exact ⟨ret_bool (by simp [okL1, h4]), by go_grown⟩
  all_goals
    go_enter Try.func68, Try.ntmps68
    go_wp2_with (go_at_call 48; refine (inRange_calls _ _ _ _).mono ?_; rintro e w' ⟨rfl, rfl⟩)
    go_ret
    exact ⟨ret_bool (by simp [okL1, *]), by go_grown⟩
end Go.Proofs.Ythbemokpdcipaaa
