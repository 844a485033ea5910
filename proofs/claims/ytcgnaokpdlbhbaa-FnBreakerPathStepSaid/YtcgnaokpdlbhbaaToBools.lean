/- The exact laws' copy and comparison of lists of bools. -/
import Derived.Test.YtcgnaokpdlbhbaaBools
namespace Go.Proofs.Ytcgnaokpdlbhbaa
open Go.ChangeShapes Go.WideShapes Go.ChangeAt Go.RowKit
set_option linter.unusedVariables false

/-- The copy after k rounds. -/
def copyB (L : Nat → Bool) (n k : Nat) : List Bool := (List.range n).map fun i => if i < k then L i else false
theorem copyB_len (L : Nat → Bool) (n k : Nat) : (copyB L n k).length = n := by simp [copyB]
theorem copyB_zero (L : Nat → Bool) (n : Nat) : (copyB L n 0).map Value.bool = List.replicate n (.bool false) := by
  apply List.ext_getElem
  · simp [copyB]
  · intro i h1 h2; simp [copyB]
theorem copyB_step (L : Nat → Bool) (n k : Nat) (hk : k < n) : ((copyB L n k).map Value.bool).set k (.bool (L k)) = (copyB L n (k + 1)).map Value.bool := by
  apply List.ext_getElem
  · simp [copyB]
  · intro i h1 h2
    rw [List.getElem_set]
    by_cases hik : k = i
    · subst hik; simp [copyB]
    · rw [if_neg hik]
      simp only [copyB, List.map_map, List.getElem_map, List.getElem_range, Function.comp]
      have : (i < k + 1) ↔ (i < k) := by omega
      simp [this]
theorem copyB_at (L : Nat → Bool) (n i : Nat) (hi : i < n) : (copyB L n n).getD i false = L i := by
  simp [copyB, hi]

theorem toBoolS_own (ao : Option Addr) (n cap : Nat) (L : Nat → Bool) (w : World) (h : RdB w ao n cap L) (hn : n ≤ 1048576) :
    Calls Try.prog 34 #[.slice ao n cap] w fun e w' => ∃ v, e = .returned v ∧ w'.ownsRow w.heap.size 4 1 v n (((List.range n).map L).map Value.bool) ∧ (∃ ao cap, v = .slice ao n cap) ∧ Below w.heap.size w w' := by
  obtain ⟨i0, hi, hz0, hz1, hz2⟩ := info_parts infoBool
  have hlen := h.len
  go_enter Try.func34, Try.ntmps34
  go_wp2_with (at_make; refine wpList_make_full _ rfl _ _ 42 rfl w.heap.size 4 i0 (.bool false) 1 Try.underlying42 hi hz0 hz1 _ _ _ _ n rfl rfl rfl rfl (by rw [hz2]; omega) (by unfold maxLen; omega) (Nat.le_refl _) ?_)
  intro w1 hown hgrow
  have hown1 : w1.ownsRow w.heap.size 4 1 (.slice (some ⟨w.heap.size, 0, none⟩) n n) n ((copyB L n 0).map Value.bool) := by
    rw [copyB_zero]
    rw [← toList_madeCells_one]; exact hown
  have B1 : Below w.heap.size w w1 := below_of_grown hgrow (Nat.le_refl _) (fun g hg => by simp at hg)
  clear hown hgrow hi hz0 hz1 hz2
  go_wp2
  go_loopw [4] (fun i wr => ∃ k : Nat, k ≤ n ∧ i = .int .i64 k ∧ wr.ownsRow w.heap.size 4 1 (.slice (some ⟨w.heap.size, 0, none⟩) n n) n ((copyB L n k).map Value.bool) ∧ Below w.heap.size w wr)
    (fun i _ => n - (intOf i).toNat)
  case atStart => exact ⟨0, Nat.zero_le _, rfl, hown1, B1⟩
  case round =>
    obtain ⟨k, hk, rfl, hown, hB⟩ := hrel
    by_cases hlt : k < n
    · obtain ⟨b, off, rfl, hb, hc⟩ := h.pos (by omega)
      have hck : wr.cell? ⟨b, off + k, none⟩ = some (.bool (L k)) := (hB.cell hb).trans (hc k hlt)
      have hd : wr.cell? ⟨w.heap.size, k, none⟩ = some (.bool ((copyB L n k).getD k false)) := by
        rw [hown.cellAt k (by omega)]
        simp [copyB, hlt]
      have hf : wr.frozen? ⟨w.heap.size, k, none⟩ = false := hown.frozenAt k
      have hst := hown.stored k (.bool (L k))
      rw [copyB_step L n k hlt] at hst
      have HB : Below w.heap.size w (wr.setCell ⟨w.heap.size, k, none⟩ (.bool (L k))) := hB.setCell (Nat.le_refl _) _
      have H1 := Lib.hid hst.1
      clear hst hc hown
      go_wp2
      go_roundw
      case rel => exact ⟨k + 1, by omega, by go_num, H1.out, HB⟩
      case measure => simp [intOf]; omega
    · obtain rfl : k = n := by omega
      have e : copyB L k k = (List.range k).map L := by unfold copyB; exact List.map_congr_left fun i hi => if_pos (List.mem_range.1 hi)
      rw [e] at hown
      have HO := Lib.hid hown
      clear hown e h
      go_wp2
      go_ret
      exact ⟨_, rfl, HO.out, ⟨_, _, rfl⟩, hB⟩

theorem toBoolS_calls (ao : Option Addr) (n cap : Nat) (L : Nat → Bool) (w : World) (h : RdB w ao n cap L) (hn : n ≤ 1048576) :
    Calls Try.prog 34 #[.slice ao n cap] w (Bools w n L) := by
  refine (toBoolS_own ao n cap L w h hn).mono ?_
  rintro e w' ⟨v, rfl, ho, _, hb⟩
  have hl : ((List.range n).map L).length = n := by simp
  have ho' : w'.ownsRow w.heap.size 4 1 v ((List.range n).map L).length (((List.range n).map L).map Value.bool) := by rw [hl]; exact ho
  obtain ⟨a, c, h1, h2, h3⟩ := RdB_of_own ho'
  rw [hl] at h1 h2
  exact ⟨v, rfl, a, c, h1, h2.congr (fun i hi j _ => congrArg Value.bool (by simp [hi])), h3, hb⟩

theorem eqBoolS_calls (a b : Option Addr) (n c d : Nat) (L : Nat → Bool) (w : World) (h : RdB w a n c L) (h' : RdB w b n d L) :
    Calls Try.prog 38 #[.slice a n c, .slice b n d] w (SaysTrue w) := by
  have hlen := h.len
  go_enter Try.func38, Try.ntmps38
  go_wp2
  go_loopw [5] (fun i wr => ∃ k : Nat, k ≤ n ∧ i = .int .i64 k ∧ Below w.heap.size w wr) (fun i _ => n - (intOf i).toNat)
  case atStart => exact ⟨0, Nat.zero_le _, rfl, Below.refl _ _⟩
  case round =>
    obtain ⟨k, hk, rfl, hB⟩ := hrel
    by_cases hlt : k < n
    · obtain ⟨b1, o1, rfl, hb1, hc1⟩ := h.pos (by omega)
      obtain ⟨b2, o2, rfl, hb2, hc2⟩ := h'.pos (by omega)
      have g1 : wr.cell? ⟨b1, o1 + k, none⟩ = some (.bool (L k)) := (hB.cell hb1).trans (hc1 k hlt)
      have g2 : wr.cell? ⟨b2, o2 + k, none⟩ = some (.bool (L k)) := (hB.cell hb2).trans (hc2 k hlt)
      have i0 : (k : Int) < (n : Int) := by omega
      clear hc1 hc2
      go_wp2
      go_quiet (fail)
      go_wp2
      go_roundw
      case rel => exact ⟨k + 1, by omega, by go_num, below_drewN hB _⟩
      case measure => simp [intOf]; omega
    · go_wp2
      go_ret
      exact ⟨rfl, hB⟩
end Go.Proofs.Ytcgnaokpdlbhbaa
