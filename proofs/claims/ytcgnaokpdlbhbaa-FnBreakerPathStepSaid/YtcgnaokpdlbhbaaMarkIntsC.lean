/- The exact laws' marks in lists of integers. -/
import Derived.Test.YtcgnaokpdlbhbaaEqInts
import Derived.Test.YtcgnaokpdlbhbaaRowsOf
namespace Go.Proofs.Ytcgnaokpdlbhbaa
open Go.ChangeShapes Go.WideShapes Go.ChangeAt Go.RowKit
set_option linter.unusedVariables false

/-- The marks after j rounds. -/
def markI (k : Int) (xs : List Value) (j : Nat) : List Value := (List.range xs.length).map fun (i : Nat) => if i < j then Value.int .i64 (k + i) else xs.getD i undef
theorem markI_len (k : Int) (xs : List Value) (j : Nat) : (markI k xs j).length = xs.length := by simp [markI]
theorem markI_zero (k : Int) (xs : List Value) : markI k xs 0 = xs := by
  apply List.ext_getElem
  · simp [markI]
  · intro i h1 h2; simp [markI, h2]
theorem markI_step (k : Int) (xs : List Value) (j : Nat) : (markI k xs j).set j (.int .i64 (k + j)) = markI k xs (j + 1) := by
  apply List.ext_getElem
  · simp [markI]
  · intro i h1 h2
    rw [List.getElem_set]
    by_cases hij : j = i
    · subst hij; simp [markI]
    · rw [if_neg hij]
      simp only [markI, List.getElem_map, List.getElem_range]
      have : (i < j + 1) ↔ (i < j) := by omega
      simp [this]
def cntI (k : Int) (n : Nat) : List Value := (List.range n).map fun (i : Nat) => Value.int .i64 (k + (i : Int))
theorem markI_all (k : Int) (xs : List Value) : markI k xs xs.length = cntI k xs.length := by
  unfold markI cntI
  exact List.map_congr_left fun i hi => if_pos (List.mem_range.1 hi)
theorem cntI_get (k : Int) (n j : Nat) (hj : j < n) : (cntI k n)[j]? = some (.int .i64 (k + (j : Int))) := by simp [cntI, hj]

theorem grown_refl (w : World) (row : Option Nat) : w.grownBy w row := ⟨rfl, rfl, rfl, Nat.le_refl _, fun _ _ _ => rfl⟩

theorem markIntS_calls {base : Nat} {ao : Option Addr} {n c cap : Nat} {xs : List Value} (k : Int) (w : World) (h : w.ownsRow base 3 1 (.slice ao n cap) n xs) (hn : n ≤ 1048576) (hk : 0 ≤ k) (hk1 : k ≤ 10000000) :
    Calls Try.prog 40 #[.slice ao n c, .int .i64 k] w fun e w' => e = .returned (.int .i64 (k + n)) ∧ w'.ownsRow base 3 1 (.slice ao n cap) n (cntI k n) ∧ w.grownBy w' (Value.slice ao n cap).ownBlock := by
  have hxl : xs.length = n := by have := h.1; omega
  go_enter Try.func40, Try.ntmps40
  go_wp2
  go_loopw [1, 5] (fun q i wr => ∃ j : Nat, j ≤ n ∧ i = .int .i64 j ∧ q = .int .i64 (k + j) ∧ wr.ownsRow base 3 1 (.slice ao n cap) n (markI k xs j) ∧ w.grownBy wr (Value.slice ao n cap).ownBlock)
    (fun _ i _ => n - (intOf i).toNat)
  case atStart => exact ⟨0, Nat.zero_le _, rfl, by simp, by rw [markI_zero]; exact h, grown_refl _ _⟩
  case round =>
    obtain ⟨j, hj, rfl, rfl, hO, hG⟩ := hrel
    by_cases hlt : j < n
    · obtain ⟨g, cap', hf⟩ := own_form hO (by omega)
      injection hf with e1 e2 e3
      subst e1 e3
      obtain ⟨u, hu⟩ := own_some hO j (by omega)
      have hfz := hO.frozenAt j
      have hst := hO.stored j (.int .i64 (k + j))
      rw [markI_step] at hst
      have H1 := Lib.hid hst.1
      have H2 := Lib.hid (grown_trans hG hst.2 (fun x hx => .inr hx))
      clear hst hO hG h
      go_wp2
      go_roundw
      case rel => exact ⟨j + 1, by omega, by go_num, by go_num, H1.out, H2.out⟩
      case measure => simp [intOf]; omega
    · obtain rfl : j = n := by omega
      have e : markI k xs j = cntI k j := by have := markI_all k xs; rw [hxl] at this; exact this
      rw [e] at hO
      have HO := Lib.hid hO
      have HG := Lib.hid hG
      clear hO hG h e
      go_wp2
      go_ret
      exact ⟨rfl, HO.out, HG.out⟩

theorem heldIntS_calls {base : Nat} {ao : Option Addr} {n c cap : Nat} (k : Int) (w : World) (h : w.ownsRow base 3 1 (.slice ao n cap) n (cntI k n)) (hn : n ≤ 1048576) (hk : 0 ≤ k) (hk1 : k ≤ 10000000) :
    Calls Try.prog 41 #[.slice ao n c, .int .i64 k] w fun e w' => e = .returned (.int .i64 (k + n)) ∧ Below w.heap.size w w' := by
  go_enter Try.func41, Try.ntmps41
  go_wp2
  go_loopw [1, 5] (fun q i wr => ∃ j : Nat, j ≤ n ∧ i = .int .i64 j ∧ q = .int .i64 (k + j) ∧ Below w.heap.size w wr)
    (fun _ i _ => n - (intOf i).toNat)
  case atStart => exact ⟨0, Nat.zero_le _, rfl, by simp, Below.refl _ _⟩
  case round =>
    obtain ⟨j, hj, rfl, rfl, hB⟩ := hrel
    by_cases hlt : j < n
    · obtain ⟨g, cap', hf⟩ := own_form h (by omega)
      injection hf with e1 e2 e3
      subst e1 e3
      have hO := own_below h hB
      have hc := hO.cellAt j (by omega)
      rw [cntI_get k n j hlt] at hc
      have i0 : (j : Int) < (n : Int) := by omega
      clear hO h
      go_wp2
      go_roundw
      case rel => exact ⟨j + 1, by omega, by go_num, by go_num, by go_grown⟩
      case measure => simp [intOf]; omega
    · obtain rfl : j = n := by omega
      go_wp2
      go_ret
      exact ⟨rfl, hB⟩

/-- The drawn laws' comparison. -/
theorem equalInts_calls (a b : Option Addr) (n c d : Nat) (L : Nat → Int) (w : World) (h : RdI w a n c L) (h' : RdI w b n d L) :
    Calls Try.prog 43 #[.slice a n c, .slice b n d] w (SaysTrue w) := by
  have hlen := h.len
  go_enter Try.func43, Try.ntmps43
  go_wp2
  go_loopw [5] (fun i wr => ∃ k : Nat, k ≤ n ∧ i = .int .i64 k ∧ Below w.heap.size w wr) (fun i _ => n - (intOf i).toNat)
  case atStart => exact ⟨0, Nat.zero_le _, rfl, Below.refl _ _⟩
  case round =>
    obtain ⟨k, hk, rfl, hB⟩ := hrel
    by_cases hlt : k < n
    · obtain ⟨b1, o1, rfl, hb1, hc1⟩ := h.pos (by omega)
      obtain ⟨b2, o2, rfl, hb2, hc2⟩ := h'.pos (by omega)
      have g1 : wr.cell? ⟨b1, o1 + k, none⟩ = some (.int .i64 (L k)) := (hB.cell hb1).trans (hc1 k hlt)
      have g2 : wr.cell? ⟨b2, o2 + k, none⟩ = some (.int .i64 (L k)) := (hB.cell hb2).trans (hc2 k hlt)
      have i0 : (k : Int) < (n : Int) := by omega
      clear hc1 hc2
      go_wp2
      go_quiet (fail)
      go_wp2
      go_roundw
      case rel => exact ⟨k + 1, by omega, by go_num, below_drewN hB _⟩
      case measure => simp [intOf]; omega
    · go_wp2
      go_ret
      exact ⟨rfl, hB⟩
end Go.Proofs.Ytcgnaokpdlbhbaa
