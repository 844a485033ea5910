/- The exact laws' copy and comparison of lists of integers. -/
import Derived.Test.YtcgnaokpdlbhbaaInts
namespace Go.Proofs.Ytcgnaokpdlbhbaa
open Go.ChangeShapes Go.WideShapes Go.ChangeAt Go.RowKit
set_option linter.unusedVariables false

/-- The copy after k rounds. -/
def copyI (L : Nat → Int) (n k : Nat) : List Int := (List.range n).map fun i => if i < k then L i else 0
theorem copyI_len (L : Nat → Int) (n k : Nat) : (copyI L n k).length = n := by simp [copyI]
theorem copyI_zero (L : Nat → Int) (n : Nat) : (copyI L n 0).map (Value.int .i64) = List.replicate n (.int .i64 0) := by
  apply List.ext_getElem
  · simp [copyI]
  · intro i h1 h2; simp [copyI]
theorem copyI_step (L : Nat → Int) (n k : Nat) (hk : k < n) : ((copyI L n k).map (Value.int .i64)).set k (.int .i64 (L k)) = (copyI L n (k + 1)).map (Value.int .i64) := by
  apply List.ext_getElem
  · simp [copyI]
  · intro i h1 h2
    rw [List.getElem_set]
    by_cases hik : k = i
    · subst hik; simp [copyI]
    · rw [if_neg hik]
      simp only [copyI, List.map_map, List.getElem_map, List.getElem_range, Function.comp]
      have : (i < k + 1) ↔ (i < k) := by omega
      simp [this]
theorem copyI_at (L : Nat → Int) (n i : Nat) (hi : i < n) : (copyI L n n).getD i 0 = L i := by
  simp [copyI, hi]

theorem toIntS_own (ao : Option Addr) (n cap : Nat) (L : Nat → Int) (w : World) (h : RdI w ao n cap L) (hn : n ≤ 1048576) :
    Calls Try.prog 35 #[.slice ao n cap] w fun e w' => ∃ v, e = .returned v ∧ w'.ownsRow w.heap.size 3 1 v n (((List.range n).map L).map (Value.int .i64)) ∧ (∃ ao cap, v = .slice ao n cap) ∧ Below w.heap.size w w' := by
  obtain ⟨i0, hi, hz0, hz1, hz2⟩ := info_parts infoInt
  have hlen := h.len
  go_enter Try.func35, Try.ntmps35
  go_wp2_with (at_make; refine wpList_make_full _ rfl _ _ 43 rfl w.heap.size 3 i0 (.int .i64 0) 1 Try.underlying43 hi hz0 hz1 _ _ _ _ n rfl rfl rfl rfl (by rw [hz2]; omega) (by unfold maxLen; omega) (Nat.le_refl _) ?_)
  intro w1 hown hgrow
  have hown1 : w1.ownsRow w.heap.size 3 1 (.slice (some ⟨w.heap.size, 0, none⟩) n n) n ((copyI L n 0).map (Value.int .i64)) := by
    rw [copyI_zero]
    rw [← toList_madeCells_one]; exact hown
  have B1 : Below w.heap.size w w1 := below_of_grown hgrow (Nat.le_refl _) (fun g hg => by simp at hg)
  clear hown hgrow hi hz0 hz1 hz2
  go_wp2
  go_loopw [4] (fun i wr => ∃ k : Nat, k ≤ n ∧ i = .int .i64 k ∧ wr.ownsRow w.heap.size 3 1 (.slice (some ⟨w.heap.size, 0, none⟩) n n) n ((copyI L n k).map (Value.int .i64)) ∧ Below w.heap.size w wr)
    (fun i _ => n - (intOf i).toNat)
  case atStart => exact ⟨0, Nat.zero_le _, rfl, hown1, B1⟩
  case round =>
    obtain ⟨k, hk, rfl, hown, hB⟩ := hrel
    by_cases hlt : k < n
    · obtain ⟨b, off, rfl, hb, hc⟩ := h.pos (by omega)
      have hck : wr.cell? ⟨b, off + k, none⟩ = some (.int .i64 (L k)) := (hB.cell hb).trans (hc k hlt)
      have hd : wr.cell? ⟨w.heap.size, k, none⟩ = some (.int .i64 ((copyI L n k).getD k 0)) := by
        rw [hown.cellAt k (by omega)]
        simp [copyI, hlt]
      have hf : wr.frozen? ⟨w.heap.size, k, none⟩ = false := hown.frozenAt k
      have hst := hown.stored k (.int .i64 (L k))
      rw [copyI_step L n k hlt] at hst
      have HB : Below w.heap.size w (wr.setCell ⟨w.heap.size, k, none⟩ (.int .i64 (L k))) := hB.setCell (Nat.le_refl _) _
      have H1 := Lib.hid hst.1
      clear hst hc hown
      go_wp2
      go_roundw
      case rel => exact ⟨k + 1, by omega, by go_num, H1.out, HB⟩
      case measure => simp [intOf]; omega
    · obtain rfl : k = n := by omega
      have e : copyI L k k = (List.range k).map L := by unfold copyI; exact List.map_congr_left fun i hi => if_pos (List.mem_range.1 hi)
      rw [e] at hown
      have HO := Lib.hid hown
      clear hown e h
      go_wp2
      go_ret
      exact ⟨_, rfl, HO.out, ⟨_, _, rfl⟩, hB⟩

theorem toIntS_calls (ao : Option Addr) (n cap : Nat) (L : Nat → Int) (w : World) (h : RdI w ao n cap L) (hn : n ≤ 1048576) :
    Calls Try.prog 35 #[.slice ao n cap] w (Ints w n L) := by
  refine (toIntS_own ao n cap L w h hn).mono ?_
  rintro e w' ⟨v, rfl, ho, _, hb⟩
  have hl : ((List.range n).map L).length = n := by simp
  have ho' : w'.ownsRow w.heap.size 3 1 v ((List.range n).map L).length (((List.range n).map L).map (Value.int .i64)) := by rw [hl]; exact ho
  obtain ⟨a, c, h1, h2, h3⟩ := RdI_of_own ho'
  rw [hl] at h1 h2
  exact ⟨v, rfl, a, c, h1, h2.congr (fun i hi j _ => congrArg (Value.int .i64) (by simp [hi])), h3, hb⟩

end Go.Proofs.Ytcgnaokpdlbhbaa
